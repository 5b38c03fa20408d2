/-
  What the walks of this seat share: a frame of the memory by a set of blocks; slices of whole numbers that are read or owned.
-/
import Derived.WalkKit
import Derived.ProofKit
import Derived.KernelRfl
import Derived.Deep.RegionHeld3
import Derived.Deep.AppendLies
import Derived.Deep.QuietTactic
import Derived.BigQuiet
import Derived.Maps.AppendAt
import Derived.Deep.OwnRows
import Derived.Deep.LoopGhost
import Derived.Outline
import Derived.Deep.RegionLaw
import Derived.Laws.EntriesVeiled
import Derived.Laws.ResultCell
import Derived.Laws.OwnMore
import Derived.Laws.Rows
import Derived.SizedLaws
import Derived.Deep.Slices
import Derived.OpenShut
import Derived.ChangeArms
import Derived.Test.YtanimonhnngfkaaProg
import Derived.Laws.BitsLemmas
import Derived.Laws.CopyOwn
import Derived.Laws.MakeOwn
import Derived.BigRegion
set_option linter.unusedVariables false
set_option linter.unusedSimpArgs false
namespace Go.Proofs.Ytanimonhnngfkaa.Own
open Go.RowKit

/-- Behind the call all blocks that were there and are none of F's are as they were. -/
structure Foot (F : Nat → Prop) (w w' : World) : Prop where
  os : w'.os = w.os
  tape : w'.tape = w.tape
  output : w'.output = w.output
  size : w.heap.size ≤ w'.heap.size
  block : ∀ k, k < w.heap.size → ¬ F k → w'.heap[k]? = w.heap[k]?

theorem Foot.refl (F : Nat → Prop) (w : World) : Foot F w w := ⟨rfl, rfl, rfl, Nat.le_refl _, fun _ _ _ => rfl⟩
theorem Foot.trans {F G : Nat → Prop} {a b c : World} (h : Foot F a b) (k : Foot G b c) (hG : ∀ i, G i → F i ∨ a.heap.size ≤ i) : Foot F a c :=
  ⟨k.os.trans h.os, k.tape.trans h.tape, k.output.trans h.output, Nat.le_trans h.size k.size, fun i hi hF => by
    rw [k.block i (Nat.lt_of_lt_of_le hi h.size) (fun g => (hG i g).elim hF (fun h' => absurd h' (Nat.not_le.2 hi)))]
    exact h.block i hi hF⟩
theorem Foot.drew {F : Nat → Prop} {a b : World} (h : Foot F a b) : Foot F a b.drew := ⟨h.os, h.tape, h.output, h.size, h.block⟩
theorem Foot.drewN {F : Nat → Prop} {a b : World} (h : Foot F a b) (n : Nat) : Foot F a (b.drewN n) := ⟨h.os, h.tape, h.output, h.size, h.block⟩
theorem Foot.alloc {F : Nat → Prop} {a b : World} (h : Foot F a b) (o : Obj) : Foot F a (b.alloc o) :=
  ⟨h.os, h.tape, h.output, Nat.le_trans h.size (by simp), fun i hi hF => by rw [Below.heap_alloc _ _ _ (Nat.lt_of_lt_of_le hi h.size)]; exact h.block i hi hF⟩
theorem Foot.setCell {F : Nat → Prop} {a b : World} (h : Foot F a b) {p : Addr} (hp : F p.block ∨ a.heap.size ≤ p.block) (u : Value) : Foot F a (b.setCell p u) :=
  ⟨h.os, h.tape, h.output, Nat.le_trans h.size (by simp [World.setCell]), fun i hi hF => by
    rw [Below.heap_setCell _ _ _ _ (by rintro rfl; rcases hp with hp | hp; exact hF hp; exact absurd hp (Nat.not_le.2 hi))]; exact h.block i hi hF⟩
theorem Foot.grown {F : Nat → Prop} {a b c : World} {row : Option Nat} (h : Foot F a b) (hg : b.grownBy c row) (hr : ∀ k, row = some k → F k ∨ a.heap.size ≤ k) : Foot F a c :=
  ⟨hg.os.trans h.os, hg.tape.trans h.tape, hg.output.trans h.output, Nat.le_trans h.size hg.size, fun i hi hF => by
    rw [hg.block i (Nat.lt_of_lt_of_le hi h.size) (fun e => (hr i e.symm).elim hF (fun h' => absurd h' (Nat.not_le.2 hi)))]; exact h.block i hi hF⟩
theorem Foot.mono {F G : Nat → Prop} {a b : World} (h : Foot F a b) (hG : ∀ i, i < a.heap.size → F i → G i) : Foot G a b :=
  ⟨h.os, h.tape, h.output, h.size, fun i hi hF => h.block i hi (fun f => hF (hG i hi f))⟩
theorem Foot.below {F : Nat → Prop} {a b : World} {B : Nat} (h : Foot F a b) (hF : ∀ i, F i → B ≤ i) (hB : B ≤ a.heap.size) : Below B a b :=
  ⟨h.os, h.tape, h.output, h.size, fun k hk => h.block k (by omega) (fun f => absurd (hF k f) (Nat.not_le.2 hk))⟩
theorem Foot.ofBelow {a b : World} (h : Below a.heap.size a b) (F : Nat → Prop) : Foot F a b := ⟨h.os, h.tape, h.output, h.size, fun k hk _ => h.block k hk⟩
theorem Foot.blk {F : Nat → Prop} {a b : World} (h : Foot F a b) {g : Nat} {o : Obj} (hb : a.heap[g]? = some o) (hF : ¬ F g) : b.heap[g]? = some o :=
  (h.block g (Array.getElem?_eq_some_iff.1 hb).1 hF).trans hb
theorem Foot.cell {F : Nat → Prop} {a b : World} (h : Foot F a b) {p : Addr} {v : Value} (hc : a.cell? p = some v) (hF : ¬ F p.block) : b.cell? p = some v :=
  (World.cell?_of_block (w := a) (h.block p.block (World.block_lt_of_cell? a p hc) hF)).trans hc
theorem Foot.own {F : Nat → Prop} {a b : World} (h : Foot F a b) {base : Nat} {e : TypeId} {size : Nat} {v : Value} {n : Nat} {xs : List Value} (ho : a.ownsRow base e size v n xs) (hF : ∀ k, v.ownBlock = some k → ¬ F k) : b.ownsRow base e size v n xs := by
  obtain ⟨h1, h2⟩ := ho
  refine ⟨h1, ?_⟩
  rcases h2 with h2 | ⟨g, cap, cur, hv, hg, hh, r⟩
  · exact .inl h2
  · exact .inr ⟨g, cap, cur, hv, hg, h.blk hh (hF g (by rw [hv]; rfl)), r⟩

/-- Whole numbers as values. -/
def nums (k : IntKind) (xs : List Int) : List Value := xs.map fun x => .int k x
theorem nums_length (k : IntKind) (xs : List Int) : (nums k xs).length = xs.length := by simp [nums]
theorem nums_append (k : IntKind) (xs ys : List Int) : nums k (xs ++ ys) = nums k xs ++ nums k ys := by simp [nums]
def rd (xs : List Int) (i : Int) : Int := xs.getD i.toNat 0

/-- A slice that is read: nil, empty and other slices alike. -/
def Reads (w : World) (k : IntKind) (A : Option Addr) (n : Nat) (xs : List Int) : Prop :=
  xs.length = n ∧ n ≤ 9223372036854775807 ∧ (0 < n → ∃ ad, A = some ad ∧ ∀ j, j < n → w.cell? (ad.add j) = some (.int k (xs.getD j 0)))
theorem Reads.at_ {w : World} {k : IntKind} {A : Option Addr} {n : Nat} {xs : List Int} (h : Reads w k A n xs) (i : Int) (h0 : 0 ≤ i) (h1 : i < n) : ∃ ad, A = some ad ∧ w.cell? (ad.add i.toNat) = some (.int k (rd xs i)) := by
  obtain ⟨ad, e, hc⟩ := h.2.2 (by omega)
  exact ⟨ad, e, hc _ (by omega)⟩
theorem add_block (a : Addr) (i : Nat) : (a.add i).block = a.block := by unfold Addr.add; split <;> rfl
theorem Reads.foot {w w1 : World} {k : IntKind} {A : Option Addr} {n : Nat} {xs : List Int} {F : Nat → Prop} (h : Reads w k A n xs) (hb : Foot F w w1) (hF : ∀ ad, A = some ad → 0 < n → ¬ F ad.block) : Reads w1 k A n xs :=
  ⟨h.1, h.2.1, fun hn => by
    obtain ⟨ad, e, hc⟩ := h.2.2 hn
    exact ⟨ad, e, fun j hj => hb.cell (hc j hj) (by rw [add_block]; exact hF ad e hn)⟩⟩
theorem Reads.below {w w1 : World} {k : IntKind} {A : Option Addr} {n : Nat} {xs : List Int} (h : Reads w k A n xs) (hb : Below w.heap.size w w1) : Reads w1 k A n xs :=
  h.foot (Foot.ofBelow hb (fun _ => False)) (fun _ _ _ => not_false)
/-- The place of a slice that is not empty, written out. -/
theorem Reads.plain {w : World} {k : IntKind} {A : Option Addr} {n : Nat} {xs : List Int} (h : Reads w k A n xs) (hn : 0 < n) : ∃ b off, A = some ⟨b, off, none⟩ ∧ b < w.heap.size ∧ ∀ j, j < n → w.cell? ⟨b, off + j, none⟩ = some (.int k (xs.getD j 0)) := by
  obtain ⟨ad, e, hc⟩ := h.2.2 hn
  obtain ⟨b, off, spot⟩ := ad
  have h0 := hc 0 hn
  have hs : spot = none := by simpa [Addr.add] using World.cell?_spot h0
  subst hs
  refine ⟨b, off, e, ?_, fun j hj => ?_⟩
  · have := World.block_lt_of_cell? w _ h0
    rwa [add_block] at this
  · have := hc j hj
    rwa [Addr.add_lit] at this
theorem Reads.nil (w : World) (k : IntKind) : Reads w k none 0 [] := ⟨rfl, by omega, fun h => by omega⟩
theorem Reads.take_ {w : World} {k : IntKind} {A : Option Addr} {n : Nat} {xs : List Int} (h : Reads w k A n xs) (i : Nat) (hi : i ≤ n) : Reads w k A i (xs.take i) := by
  obtain ⟨h1, h2, h3⟩ := h
  refine ⟨by simp; omega, by omega, fun hn => ?_⟩
  obtain ⟨ad, e, hc⟩ := h3 (by omega)
  refine ⟨ad, e, fun j hj => ?_⟩
  rw [hc j (by omega)]
  simp [List.getElem?_take, hj]
theorem Reads.block_lt {w : World} {k : IntKind} {A : Option Addr} {n : Nat} {xs : List Int} (h : Reads w k A n xs) : ∀ ad, A = some ad → 0 < n → ad.block < w.heap.size := by
  intro ad e hn
  obtain ⟨ad', e', hc⟩ := h.2.2 hn
  obtain rfl : ad = ad' := by rw [e] at e'; injection e'
  have := World.block_lt_of_cell? w _ (hc 0 hn)
  rwa [add_block] at this
theorem add_plain (g j : Nat) : (⟨g, 0, none⟩ : Addr).add j = ⟨g, j, none⟩ := by unfold Addr.add; split <;> simp_all
theorem own_reads {w : World} {base n : Nat} {e : TypeId} {k : IntKind} {v : Value} {xs : List Int} (h : w.ownsRow base e 1 v n (nums k xs)) : ∃ A c, v = .slice A n c ∧ n ≤ c ∧ Reads w k A n xs := by
  have hl : xs.length = n := by have := h.1; simpa [nums] using this
  rcases h.2 with ⟨rfl, rfl⟩ | ⟨g, cap, cur, rfl, hb, hh, hnc, hcm, hcs, ht⟩
  · exact ⟨none, 0, rfl, Nat.le_refl _, hl, by omega, fun h => by omega⟩
  · refine ⟨some ⟨g, 0, none⟩, cap, rfl, hnc, hl, by unfold maxLen at hcm; omega, fun hn => ⟨_, rfl, fun j hj => ?_⟩⟩
    have hc := h.cells (g := g) rfl j (.int k (xs.getD j 0)) (by simp [nums, List.getElem?_eq_getElem (show j < xs.length by omega), List.getD_eq_getElem?_getD])
    exact hc

theorem cellOf {w : World} {g : Nat} {cs : Array Value} {t : TypeId} (h : w.heap[g]? = some (.cells cs t (0, 0))) (i : Nat) : w.cell? ⟨g, i, none⟩ = cs[i]? := by simp [World.cell?, h]
theorem frozenOf {w : World} {g : Nat} {cs : Array Value} {t : TypeId} (h : w.heap[g]? = some (.cells cs t (0, 0))) (i : Nat) : w.frozen? ⟨g, i, none⟩ = false := by simp [World.frozen?, h]
/-- A block of cells, one of them being written. -/
theorem setCell_heap {w : World} {g : Nat} {cs : Array Value} {t : TypeId} {fr : Nat × Nat} (h : w.heap[g]? = some (.cells cs t fr)) (j : Nat) (v : Value) : (w.setCell ⟨g, j, none⟩ v).heap[g]? = some (.cells (cs.setIfInBounds j v) t fr) := by
  simp [World.setCell, Array.getElem?_modify, h]
theorem set3 {w : World} {g : Nat} {a b c : Value} {t : TypeId} {fr : Nat × Nat} (h : w.heap[g]? = some (.cells #[a, b, c] t fr)) (x y z : Value) : (((w.setCell ⟨g, 0, none⟩ x).setCell ⟨g, 1, none⟩ y).setCell ⟨g, 2, none⟩ z).heap[g]? = some (.cells #[x, y, z] t fr) := by
  rw [setCell_heap (setCell_heap (setCell_heap h 0 x) 1 y) 2 z]
  rfl
/-- A struct and an Errno as results. -/
theorem results_row_tmp {P : Program} {fn : Func} {p u : Tmp} {ty : TypeId} (h : fn.results = #[.cell p ty, .tmp u]) (tmps : Array Value) (w : World) (g : Nat) (t : TypeId) (cs : Array Value) (fr : Nat × Nat) (d : TypeDesc)
    (hp : tmps.getD p undef = .pointer (some ⟨g, 0, none⟩)) (hg : w.heap[g]? = some (.cells cs t fr))
    (hu : P.underlying ty = some d) (hd : (match d with | .struct _ | .array _ _ => true | _ => false) = true) (hi : (P.info? ty).map (·.size) = some cs.size) :
    (results fn tmps).run P w = .ok (.tuple #[.agg cs, tmps.getD u undef]) w := by
  rw [results_cell_tmp h, hp]
  simp [asAddr, run_loadVar_row w g t ty cs fr d hg hu hd hi, Result.andThen]
theorem own_form {w : World} {base n : Nat} {e : TypeId} {size : Nat} {v : Value} {xs : List Value} (h : w.ownsRow base e size v n xs) : ∃ A L c, v = .slice A L c ∧ Aside (L = n) := by
  rcases h.2 with ⟨rfl, rfl⟩ | ⟨g, cap, cur, rfl, _⟩
  · exact ⟨_, _, _, rfl, rfl⟩
  · exact ⟨_, _, _, rfl, rfl⟩
/-- append(v, ys...): v a row of the call's own, ys any slice that is read. -/
theorem run_append_row {P : Program} {W : World} (base : Nat) (t ty e : TypeId) (k : IntKind) (bytes : Nat)
    (ht : P.underlying t = some (.slice e)) (hinfo : (P.info? e).map (fun i => (i.zero, i.size, i.bytes)) = some (some (.int k 0), 1, bytes)) (hb0 : 0 < bytes)
    (v : Value) (xs ys : List Int) (A : Option Addr) (m c : Nat)
    (HO : W.ownsRow base e 1 v xs.length (nums k xs)) (HR : Reads W k A m ys) (hbase : base ≤ W.heap.size) (hl : (xs.length + m) * bytes ≤ 140737488355328) :
    ∃ v1 w1, (Builtin.append_ #[t, t] ty #[v, .slice A m c]).run P W = .ok v1 w1 ∧ w1.ownsRow base e 1 v1 (xs ++ ys).length (nums k (xs ++ ys)) ∧ W.grownBy w1 v.ownBlock ∧ (v1.ownBlock = v.ownBlock ∨ v1.ownBlock = some W.heap.size) := by
  obtain ⟨i0, hi, hzz⟩ := Option.map_eq_some_iff.1 hinfo
  simp only [Prod.mk.injEq] at hzz
  obtain ⟨hz0, hz1, hz2⟩ := hzz
  have hm : ys.length = m := HR.1
  have hlen : xs.length + m ≤ 140737488355328 := Nat.le_trans (Nat.le_mul_of_pos_right _ hb0) hl
  rcases A with _ | ad
  · have h0 : m = 0 := by
      rcases Nat.eq_zero_or_pos m with h0 | h0
      · exact h0
      · obtain ⟨ad, h, _⟩ := HR.2.2 h0
        cases h
    subst h0
    obtain rfl : ys = [] := List.eq_nil_of_length_eq_zero hm
    refine ⟨v, W, ?_, by simpa using HO, World.grownBy.refl W _, .inl rfl⟩
    rcases HO.2 with ⟨rfl, hn⟩ | ⟨g, cap, cur, rfl, _, _, hnc, _⟩
    · simp [Builtin.append_, run_underlying ht, sizeOf, typeInfo, hi, Builtin.lenOf, Builtin.firstCells]
    · simp [Builtin.append_, run_underlying ht, sizeOf, typeInfo, hi, Builtin.lenOf, Builtin.firstCells, hnc, storeCells]
  · have hcells : ∀ j u, (nums k ys)[j]? = some u → W.cell? (ad.add j) = some u := by
      intro j u hu
      have hj : j < ys.length := by
        rcases Nat.lt_or_ge j ys.length with h | h
        · exact h
        · simp [nums, List.getElem?_eq_none h] at hu
      obtain ⟨ad', h', hc⟩ := HR.2.2 (by omega)
      injection h' with h'
      subst h'
      have := hc j (by omega)
      simp [nums, List.getElem?_eq_getElem hj] at hu
      subst hu
      rw [this]
      simp [List.getD_eq_getElem?_getD, List.getElem?_eq_getElem hj]
    obtain ⟨v1, w1, hr, h2, h3, _, h5⟩ := run_append_own_at (P := P) W base t ty e i0 (.int k 0) 1 bytes ht hi hz0 hz1 hz2 rfl (by omega) v xs.length (nums k xs) HO ad m c (nums k ys) (by simp [nums, hm]) hcells
      (by intro u hu; simp only [nums, List.mem_map] at hu; obtain ⟨q, _, rfl⟩ := hu; rfl) (by simp only [maxLen]; omega) hl hbase
    exact ⟨v1, w1, hr, by simpa [nums, hm] using h2, h3, h5⟩
theorem wp_append_row {P : Program} {o : Oper} {a : Act} {K : Act → World → Prop} {Q : Exit → Act → World → Prop} {W : World} (base : Nat) (s x : Operand) (t e : TypeId) (k : IntKind) (bytes : Nat)
    (ho : o.op = .call { callee := .builtin .append, args := #[s, x], argTypes := #[t, t] })
    (ht : P.underlying t = some (.slice e)) (hinfo : (P.info? e).map (fun i => (i.zero, i.size, i.bytes)) = some (some (.int k 0), 1, bytes)) (hb0 : 0 < bytes)
    (v : Value) (xs ys : List Int) (A : Option Addr) (m c : Nat) (hs : a.eval s = v) (hx : a.eval x = .slice A m c)
    (HO : W.ownsRow base e 1 v xs.length (nums k xs)) (HR : Reads W k A m ys) (hbase : base ≤ W.heap.size) (hl : (xs.length + m) * bytes ≤ 140737488355328)
    (h : ∀ v1 w1, w1.ownsRow base e 1 v1 (xs ++ ys).length (nums k (xs ++ ys)) → W.grownBy w1 v.ownBlock → (v1.ownBlock = v.ownBlock ∨ v1.ownBlock = some W.heap.size) → K (a.put o.dst v1) w1) :
    o.wp P a W K Q := by
  obtain ⟨v1, w1, hr, hown, hg, hat⟩ := run_append_row (P := P) (W := W) base t o.type e k bytes ht hinfo hb0 v xs ys A m c HO HR hbase hl
  unfold Oper.wp execOp
  simp only [ho, resolve, invoke, builtin, Sem.run_bind, Sem.run_pure, Result.andThen_ok, List.map_toArray, List.map_cons, List.map_nil, hs, hx, hr]
  exact h v1 w1 hown hg hat
/-- The law at a plain region's list. -/
theorem append_row {P : Program} {ops : Array Oper} {rest : List Oper} {o : Oper} {a : Act} {Q : Exit → Act → World → Prop} {W : World} (base : Nat) (hgd : o.guard = none) (s x : Operand) (t e : TypeId) (k : IntKind) (bytes : Nat)
    (ho : o.op = .call { callee := .builtin .append, args := #[s, x], argTypes := #[t, t] })
    (ht : P.underlying t = some (.slice e)) (hinfo : (P.info? e).map (fun i => (i.zero, i.size, i.bytes)) = some (some (.int k 0), 1, bytes)) (hb0 : 0 < bytes)
    (v : Value) (xs ys : List Int) (A : Option Addr) (m c : Nat) (hs : a.eval s = v) (hx : a.eval x = .slice A m c)
    (HO : W.ownsRow base e 1 v xs.length (nums k xs)) (HR : Reads W k A m ys) (hbase : base ≤ W.heap.size) (hl : (xs.length + m) * bytes ≤ 140737488355328)
    (h : ∀ v1 w1, w1.ownsRow base e 1 v1 (xs ++ ys).length (nums k (xs ++ ys)) → W.grownBy w1 v.ownBlock → (v1.ownBlock = v.ownBlock ∨ v1.ownBlock = some W.heap.size) → wpList P ops Q rest (a.put o.dst v1) w1) :
    wpList P ops Q (o :: rest) a W := by
  refine wpList_plain hgd fun K hK => ?_
  exact wp_append_row base s x t e k bytes ho ht hinfo hb0 v xs ys A m c hs hx HO HR hbase hl fun v1 w1 h1 h2 h3 => hK _ _ (h v1 w1 h1 h2 h3)
/-- The law at a step of a region that draws its order. -/
theorem step_append_row {P : Program} {ops : Array Oper} {o : Oper} {a : Act} {K : Act → World → Prop} {Q : Exit → Act → World → Prop} {E : Prop} {W : World} (base : Nat) (hgd : o.guard = none) (s x : Operand) (t e : TypeId) (k : IntKind) (bytes : Nat)
    (ho : o.op = .call { callee := .builtin .append, args := #[s, x], argTypes := #[t, t] })
    (ht : P.underlying t = some (.slice e)) (hinfo : (P.info? e).map (fun i => (i.zero, i.size, i.bytes)) = some (some (.int k 0), 1, bytes)) (hb0 : 0 < bytes)
    (v : Value) (xs ys : List Int) (A : Option Addr) (m c : Nat) (hs : a.eval s = v) (hx : a.eval x = .slice A m c)
    (HO : W.ownsRow base e 1 v xs.length (nums k xs)) (HR : Reads W k A m ys) (hbase : base ≤ W.heap.size) (hl : (xs.length + m) * bytes ≤ 140737488355328)
    (h : ∀ v1 w1, w1.ownsRow base e 1 v1 (xs ++ ys).length (nums k (xs ++ ys)) → W.grownBy w1 v.ownBlock → (v1.ownBlock = v.ownBlock ∨ v1.ownBlock = some W.heap.size) → K (a.put o.dst v1) w1) :
    if Region.wanted o (yielded ops a.tmps) = true then Oper.wp P o a W K Q else E := by
  have hw : Region.wanted o (yielded ops a.tmps) = true := by simp [Region.wanted, hgd]
  rw [if_pos hw]
  exact wp_append_row base s x t e k bytes ho ht hinfo hb0 v xs ys A m c hs hx HO HR hbase hl h
/-- What an append to a row of the call's own leaves below. -/
theorem own_grown {w w' : World} {base n : Nat} {e : TypeId} {size : Nat} {v : Value} {xs : List Value} (ho : w.ownsRow base e size v n xs) (hg : w.grownBy w' v.ownBlock) (hb : base ≤ w.heap.size) : Below base w w' :=
  Below.grown (Below.refl _ _) hg hb (by
    intro q hq
    rcases ho.2 with ⟨h1, _⟩ | ⟨g, cap, cur, h1, h2, _⟩
    · rw [h1] at hq; cases hq
    · rw [h1] at hq; injection hq with hq; subst hq; exact h2)
/-- A row of the call's own that is not empty. -/
theorem own_some {w : World} {base n : Nat} {e : TypeId} {size : Nat} {v : Value} {xs : List Value} (h : w.ownsRow base e size v n xs) (hn : 0 < n) : ∃ g c, v = .slice (some ⟨g, 0, none⟩) n c ∧ base ≤ g ∧ g < w.heap.size ∧ n ≤ c ∧ c ≤ 9223372036854775807 := by
  rcases h.2 with ⟨_, h0⟩ | ⟨g, cap, _, hv, hg, hb, hc, hm, _⟩
  · omega
  · exact ⟨g, cap, hv, hg, (Array.getElem?_eq_some_iff.1 hb).1, hc, by simpa [maxLen] using hm⟩
theorem own_at {w : World} {base n g c : Nat} {e : TypeId} {k : IntKind} {xs : List Int} (h : w.ownsRow base e 1 (.slice (some ⟨g, 0, none⟩) n c) n (nums k xs)) (j : Nat) (hj : j < n) : w.cell? ⟨g, j, none⟩ = some (.int k (xs.getD j 0)) := by
  have hl : xs.length = n := by have := h.1; simpa [nums] using this
  rw [h.cellAt j (by omega)]
  simp [nums, List.getD_eq_getElem?_getD, List.getElem?_eq_getElem (show j < xs.length by omega)]
theorem own_put {w : World} {base n g c : Nat} {e : TypeId} {k : IntKind} {xs : List Int} (h : w.ownsRow base e 1 (.slice (some ⟨g, 0, none⟩) n c) n (nums k xs)) (j : Nat) (x : Int) : (w.setCell ⟨g, j, none⟩ (.int k x)).ownsRow base e 1 (.slice (some ⟨g, 0, none⟩) n c) n (nums k (xs.set j x)) := by
  have := (h.stored j (.int k x)).1
  rwa [nums, List.map_set]
theorem own_rd {w : World} {base n g c : Nat} {e : TypeId} {k : IntKind} {xs : List Int} (h : w.ownsRow base e 1 (.slice (some ⟨g, 0, none⟩) n c) n (nums k xs)) : Reads w k (some ⟨g, 0, none⟩) n xs := by
  obtain ⟨A, c', hv, _, hr⟩ := own_reads h
  injection hv with h1 _ _
  rw [h1]; exact hr
/-- A row of the call's own, cut. -/
theorem own_cut {w : World} {base n m c : Nat} {e : TypeId} {k : IntKind} {A : Option Addr} {xs : List Int} (h : w.ownsRow base e 1 (.slice A n c) n (nums k xs)) (hm : m ≤ n) : w.ownsRow base e 1 (.slice A m c) m (nums k (xs.take m)) := by
  have hl : xs.length = n := by have := h.1; simpa [nums] using this
  refine ⟨by simp [nums]; omega, ?_⟩
  rcases h.2 with ⟨h1, rfl⟩ | ⟨g, cap, cur, h1, hb, hh, hnc, hcm, hcs, ht⟩
  · injection h1 with h1 h2 h3
    subst h1; subst h3
    obtain rfl : m = 0 := by omega
    exact .inl ⟨rfl, rfl⟩
  · injection h1 with h1 h2 h3
    subst h1; subst h3
    refine .inr ⟨g, c, cur, rfl, hb, hh, by omega, hcm, hcs, ?_⟩
    simp only [Nat.mul_one] at ht ⊢
    simp only [nums, List.map_take]
    rw [nums] at ht
    rw [← ht, List.take_take, Nat.min_eq_left hm]
theorem own_keep {w w' : World} {base n : Nat} {e : TypeId} {size : Nat} {v : Value} {xs : List Value} (h : w.ownsRow base e size v n xs) (hb : Below w.heap.size w w') : w'.ownsRow base e size v n xs := by
  refine ⟨h.1, h.2.elim .inl ?_⟩
  rintro ⟨g, cap, cur, h1, h2, h3, r⟩
  exact .inr ⟨g, cap, cur, h1, h2, (hb.block g (Array.getElem?_eq_some_iff.1 h3).1).trans h3, r⟩
theorem own_rd' {w : World} {base n c : Nat} {e : TypeId} {k : IntKind} {A : Option Addr} {xs : List Int} (h : w.ownsRow base e 1 (.slice A n c) n (nums k xs)) : Reads w k A n xs := by
  obtain ⟨A', c', hv, _, hr⟩ := own_reads h
  injection hv with h1 _ _
  rw [h1]; exact hr
theorem below_drewN {B : Nat} {a w : World} (h : Below B a w) (q : Nat) : Below B a (w.drewN q) := ⟨h.os, h.tape, h.output, h.size, h.block⟩
end Go.Proofs.Ytanimonhnngfkaa.Own

/- What came in as an argument, opened: a value that can be read as data and lies within the form's reach. -/
set_option linter.unusedVariables false
set_option linter.unusedSimpArgs false
namespace Go.Proofs.Ytanimonhnngfkaa.Own
open Go.RowKit Go.Deep Go.ChangeShapes Go.WideShapes

/-- The cells cs read as data of type t, and no list or text in it is beyond the reach. -/
def Came {H : Type} (enc : TypeId × Value → H) (P : Program) (w : World) (t : TypeId) (cs : List Value) : Prop :=
  ∃ (fuel : Nat) (d : DataW H) (pl : List MemPlace), DataW.trod enc P w 0 (fun _ => true) true fuel t cs = some (d, pl) ∧ ∀ n ∈ d.weights P t, n ≤ reachBytes

section
variable {H : Type} {enc : TypeId × Value → H} {P : Program} {w : World} {t e : TypeId} {cs : List Value}

theorem Came.int {k : IntKind} (ht : P.underlying t = some (.int k)) (h : Came enc P w t cs) : ∃ n, cs = [.int k n] ∧ (Lit.int k n).wf = true := by
  obtain ⟨fuel, d, pl, h, _⟩ := h
  obtain ⟨n, h1, _, h3⟩ := DataW.trod_int ht h
  exact ⟨n, h1, h3⟩
theorem Came.bool (ht : P.underlying t = some .bool) (h : Came enc P w t cs) : ∃ b, cs = [.bool b] := by
  obtain ⟨fuel, d, pl, h, _⟩ := h
  obtain ⟨b, h1, _⟩ := DataW.trod_bool ht h
  exact ⟨b, h1⟩
theorem Came.string (ht : P.underlying t = some .string) (h : Came enc P w t cs) : ∃ s : ByteArray, cs = [.string s] ∧ s.size ≤ 140737488351232 := by
  obtain ⟨fuel, d, pl, h, hw⟩ := h
  obtain ⟨s, h1, h2, _⟩ := DataW.trod_string ht h
  refine ⟨s, h1, ?_⟩
  injection h2 with h2 _
  subst h2
  have := hw s.data.toList.length (by simp [DataW.weights])
  rw [Array.length_toList] at this
  exact this
theorem Came.slice (ht : P.underlying t = some (.slice e)) (h : Came enc P w t cs) :
    ∃ A n c, cs = [.slice A n c] ∧ n ≤ c ∧ c ≤ maxLen ∧ n * P.bytesOf e ≤ 140737488351232 ∧ c * P.bytesOf e ≤ 140737488351232 ∧ (A = none → n = 0 ∧ c = 0) ∧
      (∀ ad, A = some ad → ∀ i, i < n → ∃ cs', w.cells? 0 (ad.add (i * P.cellsOf e)) (P.cellsOf e) = some cs' ∧ Came enc P w e cs') := by
  obtain ⟨fuel, d, pl, h, hw⟩ := h
  rcases open_slice ht h with ⟨rfl, hx⟩ | ⟨a, len, cap, m, n, D, Pl, rfl, _, hl, hm, hmm, hx, hel⟩
  · exact ⟨none, 0, 0, rfl, Nat.le_refl _, Nat.zero_le _, by simp, by simp, fun _ => ⟨rfl, rfl⟩, fun ad h => by cases h⟩
  · simp only [if_true] at hmm
    subst hmm
    injection hx with hx _
    subst hx
    have hall : ∀ (l : List (DataW H)) (x : DataW H), x ∈ l → ∀ n ∈ x.weights P e, n ∈ DataW.weightsAll P e l := by
      intro l
      induction l with
      | nil => intro x hx; cases hx
      | cons y l ih =>
        intro x hx n hn
        simp only [DataW.weightsAll, List.mem_append]
        cases hx with
        | head => exact .inl hn
        | tail _ hx => exact .inr (ih x hx n hn)
    have hcap : m * P.bytesOf e ≤ 140737488351232 := by
      have := hw (m * P.bytesOf e) (by simp only [DataW.weights, ht, List.length_map, List.length_range]; rw [show len + (m - len) = m by omega]; exact List.mem_cons_self)
      exact this
    refine ⟨some a, len, m, rfl, hl, hm, Nat.le_trans (Nat.mul_le_mul_right _ hl) hcap, hcap, (fun h => by cases h), ?_⟩
    rintro ad h i hi
    injection h with h
    subst h
    obtain ⟨cs', h1, h2⟩ := hel i (by omega)
    refine ⟨cs', h1, n, D i, Pl i, h2, fun q hq => ?_⟩
    refine hw q ?_
    simp only [DataW.weights, ht, List.mem_cons, List.mem_append]
    exact .inr (.inl (hall _ (D i) (List.mem_map.2 ⟨i, List.mem_range.2 hi, rfl⟩) q hq))
theorem Came.slice1 (ht : P.underlying t = some (.slice e)) (hc : P.cellsOf e = 1) (h : Came enc P w t cs) :
    ∃ A n c, cs = [.slice A n c] ∧ n ≤ c ∧ c ≤ maxLen ∧ n * P.bytesOf e ≤ 140737488351232 ∧ c * P.bytesOf e ≤ 140737488351232 ∧ (A = none → n = 0 ∧ c = 0) ∧
      (∀ ad, A = some ad → ∀ i, i < n → ∃ v, w.cell? (ad.add i) = some v ∧ Came enc P w e [v]) := by
  obtain ⟨A, n, c, h1, h2, h3, h4, h5, h6, h7⟩ := h.slice ht
  refine ⟨A, n, c, h1, h2, h3, h4, h5, h6, fun ad ha i hi => ?_⟩
  obtain ⟨cs', h8, h9⟩ := h7 ad ha i hi
  rw [hc, Nat.mul_one] at h8
  obtain ⟨_, hlen, _⟩ := World.cells?_some h8
  match cs', hlen with
  | [v], _ => exact ⟨v, cell_of_cells?_one h8, h9⟩
theorem Came.struct {fs : Array Field} (ht : P.underlying t = some (.struct fs)) (h : Came enc P w t cs) : cs.length = P.cellsOf t ∧ ∀ (i : Nat) (f : Field), fs[i]? = some f → Came enc P w f.type ((cs.drop f.offset).take (P.cellsOf f.type)) := by
  obtain ⟨fuel, d, pl, h, hw⟩ := h
  obtain ⟨xs, n, _, hx, hl, hlen, hf⟩ := DataW.trod_struct ht h
  injection hx with hx _
  subst hx
  refine ⟨hl, fun i f hi => ?_⟩
  have hlt : i < fs.size := (Array.getElem?_eq_some_iff.1 hi).1
  have hix : i < xs.length := by omega
  have h1 := hf i f hi
  rw [List.getElem?_eq_getElem hix] at h1
  refine ⟨n, xs[i].1, xs[i].2, h1, fun q hq => hw q ?_⟩
  simp only [DataW.weights, ht]
  have hty : (fs.toList.map (·.type))[i]? = some f.type := by simp [hi]
  exact DataW.weights_mem_each hty (by simp [List.getElem?_eq_getElem hix]) q hq
theorem Came.array {n : Nat} (ht : P.underlying t = some (.array n e)) (h : Came enc P w t cs) : cs.length = P.cellsOf t ∧ ∀ i, i < n → Came enc P w e ((cs.drop (i * P.cellsOf e)).take (P.cellsOf e)) := by
  obtain ⟨fuel, d, pl, h, hw⟩ := h
  obtain ⟨xs, m, _, hx, hl, hlen, hf⟩ := DataW.trod_array ht h
  injection hx with hx _
  subst hx
  refine ⟨hl, fun i hi => ?_⟩
  have hix : i < xs.length := by omega
  have h1 := hf i hi
  rw [List.getElem?_eq_getElem hix] at h1
  refine ⟨m, xs[i].1, xs[i].2, h1, fun q hq => hw q ?_⟩
  have hall : ∀ (l : List (DataW H)) (x : DataW H), x ∈ l → ∀ n ∈ x.weights P e, n ∈ DataW.weightsAll P e l := by
    intro l
    induction l with
    | nil => intro x hx; cases hx
    | cons y l ih =>
      intro x hx n hn
      simp only [DataW.weightsAll, List.mem_append]
      cases hx with
      | head => exact .inl hn
      | tail _ hx => exact .inr (ih x hx n hn)
  simp only [DataW.weights, ht]
  exact hall _ _ (List.mem_map.2 ⟨xs[i], List.getElem_mem hix, rfl⟩) q hq

theorem bd_u8 {n : Int} (h : (Lit.int .u8 n).wf = true) : 0 ≤ n ∧ n ≤ 255 := by simp only [Lit.wf, Bool.and_eq_true, decide_eq_true_eq] at h; exact h
theorem bd_u16 {n : Int} (h : (Lit.int .u16 n).wf = true) : 0 ≤ n ∧ n ≤ 65535 := by simp only [Lit.wf, Bool.and_eq_true, decide_eq_true_eq] at h; exact h
theorem bd_u32 {n : Int} (h : (Lit.int .u32 n).wf = true) : 0 ≤ n ∧ n ≤ 4294967295 := by simp only [Lit.wf, Bool.and_eq_true, decide_eq_true_eq] at h; exact h
theorem bd_u64 {n : Int} (h : (Lit.int .u64 n).wf = true) : 0 ≤ n ∧ n ≤ 18446744073709551615 := by simp only [Lit.wf, Bool.and_eq_true, decide_eq_true_eq] at h; exact h
theorem bd_i64 {n : Int} (h : (Lit.int .i64 n).wf = true) : -9223372036854775808 ≤ n ∧ n ≤ 9223372036854775807 := by simp only [Lit.wf, Bool.and_eq_true, decide_eq_true_eq] at h; exact h

/-- From 'for every i < n there is an x' to a list. -/
theorem list_of {α : Type} [Inhabited α] (z : α) (n : Nat) {p : Nat → α → Prop} (h : ∀ i, i < n → ∃ x, p i x) : ∃ xs : List α, xs.length = n ∧ ∀ i, i < n → p i (xs.getD i z) := by
  obtain ⟨f, hf⟩ := choose_lt h
  refine ⟨(List.range n).map f, by simp, fun i hi => ?_⟩
  simpa [List.getD_eq_getElem?_getD, hi] using hf i hi

/-- A slice of whole numbers. -/
theorem Came.ints {k : IntKind} (ht : P.underlying t = some (.slice e)) (he : P.underlying e = some (.int k)) (hc : P.cellsOf e = 1) (h : Came enc P w t cs) :
    ∃ A n c xs, cs = [.slice A n c] ∧ n ≤ c ∧ n * P.bytesOf e ≤ 140737488351232 ∧ c * P.bytesOf e ≤ 140737488351232 ∧ Reads w k A n xs ∧ ∀ j, j < n → (Lit.int k (xs.getD j 0)).wf = true := by
  obtain ⟨A, n, c, h1, h2, h3, h4, h5, h6, h7⟩ := h.slice1 ht hc
  cases A with
  | none =>
    obtain ⟨rfl, rfl⟩ := h6 rfl
    exact ⟨none, 0, 0, [], h1, h2, h4, h5, Reads.nil _ _, fun j hj => by omega⟩
  | some ad =>
    obtain ⟨xs, hl, hx⟩ := list_of (0 : Int) n (p := fun i x => w.cell? (ad.add i) = some (.int k x) ∧ (Lit.int k x).wf = true) (fun i hi => by
      obtain ⟨v, h8, h9⟩ := h7 ad rfl i hi
      obtain ⟨x, h10, h11⟩ := h9.int he
      injection h10 with h10 _
      exact ⟨x, by rw [h8, h10], h11⟩)
    unfold maxLen at h3
    exact ⟨some ad, n, c, xs, h1, h2, h4, h5, ⟨hl, by omega, fun _ => ⟨ad, rfl, fun j hj => (hx j hj).1⟩⟩, fun j hj => (hx j hj).2⟩

theorem Came.of_args {ts : List TypeId} {ds : List (DataW H)} {j : Nat} {d : DataW H} {v : Value} {pl : List MemPlace} (hsz : (DataW.weightsEach P ts ds).all (· ≤ reachBytes) = true) (ht : ts[j]? = some t) (hd : ds[j]? = some d)
    (h : DataW.Trod enc P w 0 (fun _ => true) true t v d pl) : Came enc P w t v.cells.toList := by
  obtain ⟨fuel, hf⟩ := h
  refine ⟨fuel, d, pl, hf, fun n hn => ?_⟩
  have := List.all_eq_true.1 hsz n (DataW.weights_mem_each ht hd n hn)
  simpa using this
end
end Go.Proofs.Ytanimonhnngfkaa.Own

/- Numbers of bits as they lie in slices, and as they come in. -/
set_option linter.unusedVariables false
set_option linter.unusedSimpArgs false
namespace Go.Proofs.Ytanimonhnngfkaa.Own
open Go.RowKit

/-- A number of bits, as it is told. -/
structure Num where
  W : Int
  Hi : Int
  Lo : Int
instance : Inhabited Num := ⟨⟨0, 0, 0⟩⟩
def Num.wf (x : Num) : Prop := (-9223372036854775808 ≤ x.W ∧ x.W ≤ 9223372036854775807) ∧ (0 ≤ x.Hi ∧ x.Hi ≤ 18446744073709551615) ∧ (0 ≤ x.Lo ∧ x.Lo ≤ 18446744073709551615)
def Num.v (x : Num) : Value := .agg #[.int .i64 x.W, .int .u64 x.Hi, .int .u64 x.Lo]
def zeroNum : Num := ⟨0, 0, 0⟩

/-- A slice of numbers that is read. -/
def ReadsNums (w : World) (A : Option Addr) (n : Nat) (xs : List Num) : Prop :=
  xs.length = n ∧ n ≤ 9223372036854775807 ∧ (0 < n → ∃ b off, A = some ⟨b, off, none⟩ ∧ b < w.heap.size ∧ ∀ j, j < n → w.cell? ⟨b, off + j * 3, none⟩ = some (.int .i64 (xs.getD j zeroNum).W) ∧ w.cell? ⟨b, off + (j * 3 + 1), none⟩ = some (.int .u64 (xs.getD j zeroNum).Hi) ∧ w.cell? ⟨b, off + (j * 3 + 2), none⟩ = some (.int .u64 (xs.getD j zeroNum).Lo))
theorem ReadsNums.below {w w' : World} {A : Option Addr} {n : Nat} {xs : List Num} (h : ReadsNums w A n xs) (hb : Below w.heap.size w w') : ReadsNums w' A n xs := by
  refine ⟨h.1, h.2.1, fun hn => ?_⟩
  obtain ⟨b, off, h1, h2, h3⟩ := h.2.2 hn
  refine ⟨b, off, h1, Nat.lt_of_lt_of_le h2 hb.size, fun j hj => ?_⟩
  obtain ⟨c0, c1, c2⟩ := h3 j hj
  exact ⟨(hb.cell (p := ⟨_, _, _⟩) h2).trans c0, (hb.cell (p := ⟨_, _, _⟩) h2).trans c1, (hb.cell (p := ⟨_, _, _⟩) h2).trans c2⟩

section
variable {H : Type} {enc : TypeId × Value → H} {w : World} {cs : List Value}
set_option maxRecDepth 100000 in
/-- One number, as it comes in. -/
theorem Came.num (h : Came enc Try.prog w 45 cs) : ∃ x : Num, cs = [.int .i64 x.W, .int .u64 x.Hi, .int .u64 x.Lo] ∧ x.wf := by
  obtain ⟨hl, hf⟩ := h.struct Try.underlying45
  have h3 : Try.prog.cellsOf 45 = 3 := by kernel_rfl
  have hi : Try.prog.cellsOf 3 = 1 := by kernel_rfl
  have hu : Try.prog.cellsOf 39 = 1 := by kernel_rfl
  rw [h3] at hl
  have f0 : Came enc Try.prog w 3 ((cs.drop 0).take (Try.prog.cellsOf 3)) := hf 0 _ rfl
  have f1 : Came enc Try.prog w 39 ((cs.drop 1).take (Try.prog.cellsOf 39)) := hf 1 _ rfl
  have f2 : Came enc Try.prog w 39 ((cs.drop 2).take (Try.prog.cellsOf 39)) := hf 2 _ rfl
  clear hf
  match cs, hl with
  | [a, b, c], _ =>
    rw [hi] at f0
    rw [hu] at f1 f2
    obtain ⟨x, hx, wx⟩ := f0.int Try.underlying3
    obtain ⟨y, hy, wy⟩ := f1.int Try.underlying39
    obtain ⟨z, hz, wz⟩ := f2.int Try.underlying39
    simp at hx hy hz
    exact ⟨⟨x, y, z⟩, by rw [hx, hy, hz], bd_i64 wx, bd_u64 wy, bd_u64 wz⟩
/-- A slice of numbers, as it comes in. -/
theorem Came.nums {t : TypeId} (ht : Try.prog.underlying t = some (.slice 45)) (h : Came enc Try.prog w t cs) :
    ∃ A n c xs, cs = [.slice A n c] ∧ n ≤ c ∧ c ≤ 9223372036854775807 ∧ n * Try.prog.bytesOf 45 ≤ 140737488351232 ∧ ReadsNums w A n xs ∧ ∀ j, j < n → (xs.getD j zeroNum).wf := by
  obtain ⟨A, n, c, h1, h2, h3, h4, h5, h6, h7⟩ := h.slice ht
  unfold maxLen at h3
  have h3c : Try.prog.cellsOf 45 = 3 := by kernel_rfl
  rw [h3c] at h7
  cases A with
  | none =>
    obtain ⟨rfl, rfl⟩ := h6 rfl
    exact ⟨none, 0, 0, [], h1, h2, by omega, h4, ⟨rfl, by omega, fun h => by omega⟩, fun j hj => by omega⟩
  | some ad =>
    obtain ⟨xs, hl, hx⟩ := list_of zeroNum n (p := fun i x => (w.cell? ((ad.add (i * 3)).add 0) = some (.int .i64 x.W) ∧ w.cell? ((ad.add (i * 3)).add 1) = some (.int .u64 x.Hi) ∧ w.cell? ((ad.add (i * 3)).add 2) = some (.int .u64 x.Lo)) ∧ x.wf) (fun i hi => by
      obtain ⟨cs', h8, h9⟩ := h7 ad rfl i hi
      obtain ⟨_, _, hc⟩ := World.cells?_some h8
      obtain ⟨x, hx, hw⟩ := h9.num
      rw [hx] at hc
      exact ⟨x, ⟨hc 0 (by omega), hc 1 (by omega), hc 2 (by omega)⟩, hw⟩)
    refine ⟨some ad, n, c, xs, h1, h2, by omega, h4, ⟨hl, by omega, fun hn => ?_⟩, fun j hj => (hx j hj).2⟩
    obtain ⟨b, off, spot⟩ := ad
    have h0 := (hx 0 hn).1.1
    have hs : spot = none := by simpa [Addr.add] using World.cell?_spot h0
    subst hs
    refine ⟨b, off, rfl, ?_, fun j hj => ?_⟩
    · have := World.block_lt_of_cell? w _ h0
      rwa [add_block, add_block] at this
    · have := (hx j hj).1
      rw [Addr.add_lit, Addr.add_lit, Addr.add_lit, Addr.add_lit] at this
      simpa [Nat.add_assoc] using this
end
end Go.Proofs.Ytanimonhnngfkaa.Own

/- The contracts of package bits: wide, cut, Of. -/
set_option linter.unusedVariables false
set_option linter.unusedSimpArgs false
namespace Go.Proofs.Ytanimonhnngfkaa.Own
open Go.RowKit

theorem wide_any (x : Int) (w : World) : Calls Try.prog 39 #[.int .i64 x] w fun e w' => e = .returned (.bool (decide (1 ≤ x ∧ x ≤ 128))) ∧ w = w' := by
  by_cases h1 : 1 ≤ x
  · by_cases h2 : x ≤ 128
    · rw [decide_eq_true ⟨h1, h2⟩]
      go_enter Try.func39, Try.ntmps39
      go_wp2
      go_ret
      exact ⟨rfl, rfl⟩
    · rw [decide_eq_false (fun h => h2 h.2)]
      go_enter Try.func39, Try.ntmps39
      go_wp2
      go_ret
      exact ⟨rfl, rfl⟩
  · rw [decide_eq_false (fun h => h1 h.1)]
    go_enter Try.func39, Try.ntmps39
    go_wp2
    go_ret
    exact ⟨rfl, rfl⟩

/-- A number of w bits, as Go's struct. -/
def bitsV (w hi lo : Int) : Value := .agg #[.int .i64 w, .int .u64 hi, .int .u64 lo]
/-- What is above w bits is cut off. -/
def cutHi (w : Nat) (hi : Int) : Int := if w < 64 then 0 else hi % (2 ^ (w - 64))
def cutLo (w : Nat) (lo : Int) : Int := if w < 64 then lo % (2 ^ w) else lo
theorem wraps_u64 (n : Int) (h₀ : 0 ≤ n) (h₁ : n < 2 ^ 64) : IntKind.u64.wrap n = n := by rw [IntKind.wrap_u64]; omega
theorem and_ones (i : Nat) (hi : i ≤ 64) (x : Int) (h0 : 0 ≤ x) (h1 : x ≤ 18446744073709551615) : bits .and .u64 x (IntKind.u64.wrap (IntKind.u64.wrap (2 ^ i) - 1)) = x % 2 ^ i := by
  have hp : (2:Int) ^ i = ((2 ^ i : Nat) : Int) := by simp
  have hpos : 0 < 2 ^ i := Nat.two_pow_pos i
  have e : IntKind.u64.wrap (IntKind.u64.wrap (2 ^ i) - 1) = 2 ^ i - 1 := by
    have hle : 2 ^ i ≤ 2 ^ 64 := Nat.pow_le_pow_right (by decide) hi
    rw [IntKind.wrap_u64, IntKind.wrap_u64, hp]
    omega
  rw [e]
  exact bits_mask .u64 64 (by decide) wraps_u64 i hi x h0 (by omega)

theorem cut_any (w : Nat) (hi lo : Int) (W : World) (h1 : 1 ≤ w) (h2 : w ≤ 128) (h3 : 0 ≤ hi ∧ hi ≤ 18446744073709551615) (h4 : 0 ≤ lo ∧ lo ≤ 18446744073709551615) :
    Calls Try.prog 40 #[.int .i64 (w : Int), .int .u64 hi, .int .u64 lo] W fun e W' => e = .returned (bitsV w (cutHi w hi) (cutLo w lo)) ∧ Below W.heap.size W W' := by
  have H3 : Aside (0 ≤ hi ∧ hi ≤ 18446744073709551615) := h3
  have H4 : Aside (0 ≤ lo ∧ lo ≤ 18446744073709551615) := h4
  clear h3 h4
  go_enter Try.func40, Try.ntmps40
  by_cases h : w < 64
  · go_wp2
    refine bodyPost_ret (results_cell_row rfl _ _ W.heap.size 45 _ (0,0) _ rfl (heap_alloc_new ..) Try.underlying45 rfl (by kernel_rfl)) rfl ⟨?_, (Below.refl _ _).alloc (Nat.le_refl _) _⟩
    rw [bitsV, cutHi, if_pos h, cutLo, if_pos h, ← and_ones w (by omega) lo H4.out.1 H4.out.2]
  · go_wp2
    refine bodyPost_ret (results_cell_row rfl _ _ W.heap.size 45 _ (0,0) _ rfl (heap_alloc_new ..) Try.underlying45 rfl (by kernel_rfl)) rfl ⟨?_, (Below.refl _ _).alloc (Nat.le_refl _) _⟩
    rw [bitsV, cutHi, if_neg h, cutLo, if_neg h, ← and_ones (w - 64) (by omega) hi H3.out.1 H3.out.2]
theorem of_any (w : Nat) (hi lo : Int) (W : World) (h1 : 1 ≤ w) (h2 : w ≤ 128) (h3 : 0 ≤ hi ∧ hi ≤ 18446744073709551615) (h4 : 0 ≤ lo ∧ lo ≤ 18446744073709551615) :
    Calls Try.prog 23 #[.int .i64 (w : Int), .int .u64 hi, .int .u64 lo] W fun e W' => e = .returned (.tuple #[bitsV w (cutHi w hi) (cutLo w lo), .int .i64 0]) ∧ Below W.heap.size W W' := by
  have H3 : Aside (0 ≤ hi ∧ hi ≤ 18446744073709551615) := h3
  have H4 : Aside (0 ≤ lo ∧ lo ≤ 18446744073709551615) := h4
  clear h3 h4
  generalize hA : cutHi w hi = a at *
  generalize hB : cutLo w lo = b at *
  have HA : Aside (cutHi w hi = a ∧ cutLo w lo = b) := ⟨hA, hB⟩
  clear hA hB
  have hd : decide (1 ≤ (w:Int) ∧ (w:Int) ≤ 128) = true := decide_eq_true ⟨by omega, by omega⟩
  have h0 := heap_alloc_new W (.cells #[.int .i64 0, .int .u64 0, .int .u64 0] 45 (0,0))
  have hB0 := (Below.refl W.heap.size W).alloc (Nat.le_refl _) (.cells #[.int .i64 0, .int .u64 0, .int .u64 0] 45 (0,0))
  go_enter Try.func23, Try.ntmps23
  go_wp2_with fail
  refine (wide_any _ _).mono ?_
  rintro e w' ⟨rfl, rfl⟩
  rw [hd]
  go_wp2_with fail
  refine (cut_any w hi lo _ h1 h2 H3.out H4.out).mono ?_
  rintro e w' ⟨rfl, hB1⟩
  rw [HA.out.1, HA.out.2]
  unfold bitsV
  have h5 := (hB1.block W.heap.size (by simp)).trans h0
  have c0 := cellOf h5 0
  have c1 := cellOf h5 1
  have c2 := cellOf h5 2
  have f0 := frozenOf h5 0
  have f1 := frozenOf h5 1
  have f2 := frozenOf h5 2
  clear h0
  simp only [List.getElem?_toArray, List.getElem?_cons_zero, List.getElem?_cons_succ] at c0 c1 c2
  go_wp2
  refine bodyPost_ret (results_row_tmp rfl _ _ W.heap.size 45 _ (0,0) _ rfl (set3 h5 _ _ _) Try.underlying45 rfl (by kernel_rfl)) rfl ⟨rfl, ?_⟩
  have hB2 : Below W.heap.size W w' := hB0.trans (hB1.mono (by simp))
  exact ((hB2.setCell (p := ⟨_, _, _⟩) (Nat.le_refl _) _).setCell (p := ⟨_, _, _⟩) (Nat.le_refl _) _).setCell (p := ⟨_, _, _⟩) (Nat.le_refl _) _

theorem of_bad (w hi lo : Int) (W : World) (h : w < 1 ∨ 128 < w) :
    Calls Try.prog 23 #[.int .i64 w, .int .u64 hi, .int .u64 lo] W fun e W' => e = .returned (.tuple #[bitsV 0 0 0, .int .i64 1]) ∧ Below W.heap.size W W' := by
  have hd : decide (1 ≤ w ∧ w ≤ 128) = false := decide_eq_false (by omega)
  have hB := (Below.refl W.heap.size W).alloc (Nat.le_refl _) (.cells #[.int .i64 0, .int .u64 0, .int .u64 0] 45 (0,0))
  go_enter Try.func23, Try.ntmps23
  go_wp2_with fail
  refine (wide_any _ _).mono ?_
  rintro e w' ⟨rfl, rfl⟩
  rw [hd]
  go_wp2
  exact bodyPost_ret (results_row_tmp rfl _ _ W.heap.size 45 _ (0,0) _ rfl (heap_alloc_new ..) Try.underlying45 rfl (by kernel_rfl)) rfl ⟨rfl, hB⟩
end Go.Proofs.Ytanimonhnngfkaa.Own

/- The contract of bits.Check, of any number. -/
set_option linter.unusedVariables false
set_option linter.unusedSimpArgs false
namespace Go.Proofs.Ytanimonhnngfkaa.Own
open Go.RowKit

/-- A number that may be. -/
def Num.ok (x : Num) : Prop := 1 ≤ x.W ∧ x.W ≤ 128 ∧ cutHi x.W.toNat x.Hi = x.Hi ∧ cutLo x.W.toNat x.Lo = x.Lo

theorem held_bits {g : Nat} {u v : World} {a b c : Value} {w : World} (h : (u.cell? ⟨g, 0, none⟩ = some a ∧ u.cell? ⟨g, 1, none⟩ = some b ∧ u.cell? ⟨g, 2, none⟩ = some c) ∧ Below w.heap.size w u ∧ g < u.heap.size) (hb : Below u.heap.size u v) :
    (v.cell? ⟨g, 0, none⟩ = some a ∧ v.cell? ⟨g, 1, none⟩ = some b ∧ v.cell? ⟨g, 2, none⟩ = some c) ∧ Below w.heap.size w v ∧ g < v.heap.size := by
  obtain ⟨⟨h1, h2, h3⟩, h4, h5⟩ := h
  have := hb.size
  exact ⟨⟨(hb.cell (p := ⟨_, _, _⟩) h5).trans h1, (hb.cell (p := ⟨_, _, _⟩) h5).trans h2, (hb.cell (p := ⟨_, _, _⟩) h5).trans h3⟩, h4.trans (hb.mono h4.size), by omega⟩

set_option maxHeartbeats 1600000 in
theorem check_good (x : Num) (hw : x.wf) (ho : x.ok) (w : World) : Calls Try.prog 27 #[x.v] w fun e w' => e = .returned (.bool true) ∧ Below w.heap.size w w' := by
  obtain ⟨W, hi, lo⟩ := x
  obtain ⟨h1, h2, h3, h4⟩ := ho
  obtain ⟨_, b1, b2⟩ := hw
  simp only at h1 h2 h3 h4 b1 b2
  obtain ⟨n, rfl⟩ := Int.eq_ofNat_of_zero_le (show 0 ≤ W by omega)
  simp only [Int.toNat_natCast] at h3 h4
  have hd : decide (1 ≤ (n : Int) ∧ (n : Int) ≤ 128) = true := decide_eq_true ⟨h1, h2⟩
  have hcut := fun W => cut_any n hi lo W (by omega) (by omega) b1 b2
  simp only [h3, h4] at hcut
  have k0 : (w.alloc (.cells #[.int .i64 (n : Int), .int .u64 hi, .int .u64 lo] 45 (0,0))).drew.cell? ⟨w.heap.size, 0, none⟩ = some (.int .i64 n) := cellOf (w := (w.alloc (.cells #[.int .i64 (n : Int), .int .u64 hi, .int .u64 lo] 45 (0,0))).drew) (heap_alloc_new w _) 0
  have k1 : (w.alloc (.cells #[.int .i64 (n : Int), .int .u64 hi, .int .u64 lo] 45 (0,0))).drew.cell? ⟨w.heap.size, 1, none⟩ = some (.int .u64 hi) := cellOf (w := (w.alloc (.cells #[.int .i64 (n : Int), .int .u64 hi, .int .u64 lo] 45 (0,0))).drew) (heap_alloc_new w _) 1
  have k2 : (w.alloc (.cells #[.int .i64 (n : Int), .int .u64 hi, .int .u64 lo] 45 (0,0))).drew.cell? ⟨w.heap.size, 2, none⟩ = some (.int .u64 lo) := cellOf (w := (w.alloc (.cells #[.int .i64 (n : Int), .int .u64 hi, .int .u64 lo] 45 (0,0))).drew) (heap_alloc_new w _) 2
  have hB : Below w.heap.size w (w.alloc (.cells #[.int .i64 (n : Int), .int .u64 hi, .int .u64 lo] 45 (0,0))).drew := ((Below.refl _ _).alloc (Nat.le_refl _) _).drew
  have hs : w.heap.size < (w.alloc (.cells #[.int .i64 (n : Int), .int .u64 hi, .int .u64 lo] 45 (0,0))).drew.heap.size := by show w.heap.size < (w.alloc _).heap.size; simp
  have HC : Aside _ := hcut
  clear hcut h3 h4
  unfold bitsV at HC
  unfold Num.v
  go_enter Try.func27, Try.ntmps27
  go_wp2_with fail
  go_region_held3 (fun w' => (w'.cell? ⟨w.heap.size, 0, none⟩ = some (.int .i64 (n : Int)) ∧ w'.cell? ⟨w.heap.size, 1, none⟩ = some (.int .u64 hi) ∧ w'.cell? ⟨w.heap.size, 2, none⟩ = some (.int .u64 lo)) ∧ Below w.heap.size w w' ∧ w.heap.size < w'.heap.size)
    (first | exact ⟨⟨k0, k1, k2⟩, hB, hs⟩ | assumption | exact held_bits (by assumption) hb5)
    ((go_simp; (first
      | (go_at_call 39; refine (wide_any _ _).mono ?_; rintro e w5 ⟨rfl, rfl⟩; rw [hd])
      | (go_at_call 40; refine Calls.mono (HC.out _) ?_; rintro e w5 ⟨rfl, hb5⟩))))
  go_wp2
  go_ret
  rename_i hh
  exact ⟨rfl, hh.2.1⟩

theorem wide_no (x : Int) (h : ¬ (1 ≤ x ∧ x ≤ 128)) (w : World) : Calls Try.prog 39 #[.int .i64 x] w fun e w' => e = .returned (.bool false) ∧ w = w' := by
  have := wide_any x w
  rwa [decide_eq_false h] at this
set_option maxHeartbeats 800000 in
theorem check_wide (x : Num) (ho : ¬ (1 ≤ x.W ∧ x.W ≤ 128)) (w : World) : Calls Try.prog 27 #[x.v] w fun e w' => e = .returned (.bool false) ∧ Below w.heap.size w w' := by
  obtain ⟨W, hi, lo⟩ := x
  have HW : Aside (∀ w, Calls Try.prog 39 #[.int .i64 W] w fun e w' => e = .returned (.bool false) ∧ w = w') := wide_no W ho
  have k0 : (w.alloc (.cells #[.int .i64 W, .int .u64 hi, .int .u64 lo] 45 (0,0))).drew.cell? ⟨w.heap.size, 0, none⟩ = some (.int .i64 W) := cellOf (w := (w.alloc (.cells #[.int .i64 W, .int .u64 hi, .int .u64 lo] 45 (0,0))).drew) (heap_alloc_new w _) 0
  have hB : Below w.heap.size w (w.alloc (.cells #[.int .i64 W, .int .u64 hi, .int .u64 lo] 45 (0,0))) := (Below.refl _ _).alloc (Nat.le_refl _) _
  clear ho
  unfold Num.v
  go_enter Try.func27, Try.ntmps27
  go_wp2_with fail
  go_quiet ((go_at_call 39; exact Calls.quiet_of_same ((HW.out _).mono (fun e w2 h => ⟨h.1, h.2.symm⟩))))
  go_wp2
  go_ret
  exact ⟨rfl, below_drewN hB _⟩
set_option maxHeartbeats 1600000 in
theorem check_cut (x : Num) (hw : x.wf) (h1 : 1 ≤ x.W) (h2 : x.W ≤ 128) (ho : ¬ (cutHi x.W.toNat x.Hi = x.Hi ∧ cutLo x.W.toNat x.Lo = x.Lo)) (w : World) : Calls Try.prog 27 #[x.v] w fun e w' => e = .returned (.bool false) ∧ Below w.heap.size w w' := by
  obtain ⟨W, hi, lo⟩ := x
  obtain ⟨_, b1, b2⟩ := hw
  simp only at h1 h2 ho b1 b2
  obtain ⟨n, rfl⟩ := Int.eq_ofNat_of_zero_le (show 0 ≤ W by omega)
  simp only [Int.toNat_natCast] at ho
  have hd : decide (1 ≤ (n : Int) ∧ (n : Int) ≤ 128) = true := decide_eq_true ⟨h1, h2⟩
  have hcut := fun W => cut_any n hi lo W (by omega) (by omega) b1 b2
  generalize cutHi n hi = a at *
  generalize cutLo n lo = b at *
  have hab : (hi == a && lo == b) = false := by
    by_cases e1 : hi = a
    · by_cases e2 : lo = b
      · exact absurd ⟨e1.symm, e2.symm⟩ ho
      · simp [e2]
    · simp [e1]
  have k0 : (w.alloc (.cells #[.int .i64 (n : Int), .int .u64 hi, .int .u64 lo] 45 (0,0))).drew.cell? ⟨w.heap.size, 0, none⟩ = some (.int .i64 n) := cellOf (w := (w.alloc (.cells #[.int .i64 (n : Int), .int .u64 hi, .int .u64 lo] 45 (0,0))).drew) (heap_alloc_new w _) 0
  have k1 : (w.alloc (.cells #[.int .i64 (n : Int), .int .u64 hi, .int .u64 lo] 45 (0,0))).drew.cell? ⟨w.heap.size, 1, none⟩ = some (.int .u64 hi) := cellOf (w := (w.alloc (.cells #[.int .i64 (n : Int), .int .u64 hi, .int .u64 lo] 45 (0,0))).drew) (heap_alloc_new w _) 1
  have k2 : (w.alloc (.cells #[.int .i64 (n : Int), .int .u64 hi, .int .u64 lo] 45 (0,0))).drew.cell? ⟨w.heap.size, 2, none⟩ = some (.int .u64 lo) := cellOf (w := (w.alloc (.cells #[.int .i64 (n : Int), .int .u64 hi, .int .u64 lo] 45 (0,0))).drew) (heap_alloc_new w _) 2
  have hB : Below w.heap.size w (w.alloc (.cells #[.int .i64 (n : Int), .int .u64 hi, .int .u64 lo] 45 (0,0))).drew := ((Below.refl _ _).alloc (Nat.le_refl _) _).drew
  have hs : w.heap.size < (w.alloc (.cells #[.int .i64 (n : Int), .int .u64 hi, .int .u64 lo] 45 (0,0))).drew.heap.size := by show w.heap.size < (w.alloc _).heap.size; simp
  have HC : Aside _ := hcut
  have HAB : Aside ((hi == a && lo == b) = false) := hab
  clear hcut ho hab
  have heq : ∀ W0 : World, (binOp .eql 45 (.agg #[.int .i64 (n : Int), .int .u64 hi, .int .u64 lo]) (.agg #[.int .i64 (n : Int), .int .u64 a, .int .u64 b])).run Try.prog W0 = .ok (.bool false) W0 := by
    intro W0
    have hz := HAB.out
    go_simp
    intro e1 e2
    simp [e1, e2] at hz
  unfold bitsV at HC
  unfold Num.v
  go_enter Try.func27, Try.ntmps27
  go_wp2_with fail
  go_region_held3 (fun w' => (w'.cell? ⟨w.heap.size, 0, none⟩ = some (.int .i64 (n : Int)) ∧ w'.cell? ⟨w.heap.size, 1, none⟩ = some (.int .u64 hi) ∧ w'.cell? ⟨w.heap.size, 2, none⟩ = some (.int .u64 lo)) ∧ Below w.heap.size w w' ∧ w.heap.size < w'.heap.size)
    (first | exact ⟨⟨k0, k1, k2⟩, hB, hs⟩ | assumption | exact held_bits (by assumption) hb5)
    ((go_simp; (first
      | (go_at_call 39; refine (wide_any _ _).mono ?_; rintro e w5 ⟨rfl, rfl⟩; rw [hd])
      | (go_at_call 40; refine Calls.mono (HC.out _) ?_; rintro e w5 ⟨rfl, hb5⟩))))
  go_wp2
  go_ret
  rename_i hh
  exact ⟨rfl, hh.2.1⟩
/-- Any number. -/
def Num.okB (x : Num) : Bool := decide (1 ≤ x.W ∧ x.W ≤ 128 ∧ cutHi x.W.toNat x.Hi = x.Hi ∧ cutLo x.W.toNat x.Lo = x.Lo)
theorem Num.okB_iff (x : Num) : x.okB = true ↔ x.ok := by unfold Num.okB Num.ok; simp
theorem check_bad (x : Num) (hw : x.wf) (ho : ¬ x.ok) (w : World) : Calls Try.prog 27 #[x.v] w fun e w' => e = .returned (.bool false) ∧ Below w.heap.size w w' := by
  by_cases h : 1 ≤ x.W ∧ x.W ≤ 128
  · exact check_cut x hw h.1 h.2 (fun hc => ho ⟨h.1, h.2, hc.1, hc.2⟩) w
  · exact check_wide x h w
theorem check_any (x : Num) (hw : x.wf) (w : World) : Calls Try.prog 27 #[x.v] w fun e w' => e = .returned (.bool x.okB) ∧ Below w.heap.size w w' := by
  by_cases h : x.ok
  · rw [x.okB_iff.2 h]; exact check_good x hw h w
  · have e : x.okB = false := by cases hb : x.okB; rfl; exact absurd (x.okB_iff.1 hb) h
    rw [e]; exact check_bad x hw h w
end Go.Proofs.Ytanimonhnngfkaa.Own

/- append onto a row of the call's own, of elements of any number of cells. -/
set_option linter.unusedVariables false
set_option linter.unusedSimpArgs false
namespace Go.Proofs.Ytanimonhnngfkaa.Own
open Go.RowKit

/-- A slice whose cells are known, as append reads it. -/
def Cells (w : World) (A : Option Addr) (m size : Nat) (ys : List Value) : Prop :=
  ys.length = m * size ∧ (∀ u ∈ ys, u.oneCell' = true) ∧ (0 < m → ∃ ad, A = some ad ∧ ∀ j u, ys[j]? = some u → w.cell? (ad.add j) = some u)
theorem Cells.lit (w : World) (e : TypeId) (cs : Array Value) (m size : Nat) (hl : cs.size = m * size) (h1 : ∀ u ∈ cs.toList, u.oneCell' = true) : Cells (w.alloc (.cells cs e)) (some ⟨w.heap.size, 0, none⟩) m size cs.toList :=
  ⟨by simpa using hl, h1, fun _ => ⟨_, rfl, fun j u hu => by rw [add_plain, cellOf (heap_alloc_new w (.cells cs e)) j]; simpa using hu⟩⟩

theorem run_append_cells {P : Program} {W : World} (base : Nat) (t ty e : TypeId) (z : Value) (size bytes : Nat)
    (ht : P.underlying t = some (.slice e)) (hinfo : (P.info? e).map (fun i => (i.zero, i.size, i.bytes)) = some (some z, size, bytes)) (hz : z.cells.size = size) (hs0 : 0 < size) (hb0 : 0 < bytes)
    (v : Value) (n : Nat) (xs ys : List Value) (A : Option Addr) (m c : Nat)
    (HO : W.ownsRow base e size v n xs) (HC : Cells W A m size ys) (hbase : base ≤ W.heap.size) (hl : (n + m) * bytes ≤ 140737488355328) :
    ∃ v1 w1, (Builtin.append_ #[t, t] ty #[v, .slice A m c]).run P W = .ok v1 w1 ∧ w1.ownsRow base e size v1 (n + m) (xs ++ ys) ∧ W.grownBy w1 v.ownBlock ∧ (v1.ownBlock = v.ownBlock ∨ v1.ownBlock = some W.heap.size) := by
  obtain ⟨i0, hi, hzz⟩ := Option.map_eq_some_iff.1 hinfo
  simp only [Prod.mk.injEq] at hzz
  obtain ⟨hz0, hz1, hz2⟩ := hzz
  have hlen : n + m ≤ 140737488355328 := Nat.le_trans (Nat.le_mul_of_pos_right _ hb0) hl
  rcases A with _ | ad
  · have h0 : m = 0 := by
      rcases Nat.eq_zero_or_pos m with h0 | h0
      · exact h0
      · obtain ⟨ad, h, _⟩ := HC.2.2 h0
        cases h
    subst h0
    obtain rfl : ys = [] := List.eq_nil_of_length_eq_zero (by simpa using HC.1)
    refine ⟨v, W, ?_, by simpa using HO, World.grownBy.refl W _, .inl rfl⟩
    rcases HO.2 with ⟨rfl, hn⟩ | ⟨g, cap, cur, rfl, _, _, hnc, _⟩
    · simp [Builtin.append_, run_underlying ht, sizeOf, typeInfo, hi, Builtin.lenOf, Builtin.firstCells]
    · simp [Builtin.append_, run_underlying ht, sizeOf, typeInfo, hi, Builtin.lenOf, Builtin.firstCells, hnc, storeCells]
  · have hcells : ∀ j u, ys[j]? = some u → W.cell? (ad.add j) = some u := by
      intro j u hu
      rcases Nat.eq_zero_or_pos m with h0 | h0
      · subst h0
        obtain rfl : ys = [] := List.eq_nil_of_length_eq_zero (by simpa using HC.1)
        simp at hu
      · obtain ⟨ad', h', hc⟩ := HC.2.2 h0
        injection h' with h'
        subst h'
        exact hc j u hu
    obtain ⟨v1, w1, hr, h2, h3, _, h5⟩ := run_append_own_at (P := P) W base t ty e i0 z size bytes ht hi hz0 hz1 hz2 hz hs0 v n xs HO ad m c ys HC.1 hcells HC.2.1 (by simp only [maxLen]; omega) hl hbase
    exact ⟨v1, w1, hr, h2, h3, h5⟩
theorem wp_append_cells {P : Program} {o : Oper} {a : Act} {K : Act → World → Prop} {Q : Exit → Act → World → Prop} {W : World} (base : Nat) (s x : Operand) (t e : TypeId) (z : Value) (size bytes : Nat)
    (ho : o.op = .call { callee := .builtin .append, args := #[s, x], argTypes := #[t, t] })
    (ht : P.underlying t = some (.slice e)) (hinfo : (P.info? e).map (fun i => (i.zero, i.size, i.bytes)) = some (some z, size, bytes)) (hz : z.cells.size = size) (hs0 : 0 < size) (hb0 : 0 < bytes)
    (v : Value) (n : Nat) (xs ys : List Value) (A : Option Addr) (m c : Nat) (hs : a.eval s = v) (hx : a.eval x = .slice A m c)
    (HO : W.ownsRow base e size v n xs) (HC : Cells W A m size ys) (hbase : base ≤ W.heap.size) (hl : (n + m) * bytes ≤ 140737488355328)
    (h : ∀ v1 w1, w1.ownsRow base e size v1 (n + m) (xs ++ ys) → W.grownBy w1 v.ownBlock → (v1.ownBlock = v.ownBlock ∨ v1.ownBlock = some W.heap.size) → K (a.put o.dst v1) w1) :
    o.wp P a W K Q := by
  obtain ⟨v1, w1, hr, hown, hg, hat⟩ := run_append_cells (P := P) (W := W) base t o.type e z size bytes ht hinfo hz hs0 hb0 v n xs ys A m c HO HC hbase hl
  unfold Oper.wp execOp
  simp only [ho, resolve, invoke, builtin, Sem.run_bind, Sem.run_pure, Result.andThen_ok, List.map_toArray, List.map_cons, List.map_nil, hs, hx, hr]
  exact h v1 w1 hown hg hat
/-- The law at a plain region's list. -/
theorem append_cells {P : Program} {ops : Array Oper} {rest : List Oper} {o : Oper} {a : Act} {Q : Exit → Act → World → Prop} {W : World} (base : Nat) (hgd : o.guard = none) (s x : Operand) (t e : TypeId) (z : Value) (size bytes : Nat)
    (ho : o.op = .call { callee := .builtin .append, args := #[s, x], argTypes := #[t, t] })
    (ht : P.underlying t = some (.slice e)) (hinfo : (P.info? e).map (fun i => (i.zero, i.size, i.bytes)) = some (some z, size, bytes)) (hz : z.cells.size = size) (hs0 : 0 < size) (hb0 : 0 < bytes)
    (v : Value) (n : Nat) (xs ys : List Value) (A : Option Addr) (m c : Nat) (hs : a.eval s = v) (hx : a.eval x = .slice A m c)
    (HO : W.ownsRow base e size v n xs) (HC : Cells W A m size ys) (hbase : base ≤ W.heap.size) (hl : (n + m) * bytes ≤ 140737488355328)
    (h : ∀ v1 w1, w1.ownsRow base e size v1 (n + m) (xs ++ ys) → W.grownBy w1 v.ownBlock → (v1.ownBlock = v.ownBlock ∨ v1.ownBlock = some W.heap.size) → wpList P ops Q rest (a.put o.dst v1) w1) :
    wpList P ops Q (o :: rest) a W := by
  refine wpList_plain hgd fun K hK => ?_
  exact wp_append_cells base s x t e z size bytes ho ht hinfo hz hs0 hb0 v n xs ys A m c hs hx HO HC hbase hl fun v1 w1 h1 h2 h3 => hK _ _ (h v1 w1 h1 h2 h3)
/-- The law at a step of a region that draws its order. -/
theorem step_append_cells {P : Program} {ops : Array Oper} {o : Oper} {a : Act} {K : Act → World → Prop} {Q : Exit → Act → World → Prop} {E : Prop} {W : World} (base : Nat) (hgd : o.guard = none) (s x : Operand) (t e : TypeId) (z : Value) (size bytes : Nat)
    (ho : o.op = .call { callee := .builtin .append, args := #[s, x], argTypes := #[t, t] })
    (ht : P.underlying t = some (.slice e)) (hinfo : (P.info? e).map (fun i => (i.zero, i.size, i.bytes)) = some (some z, size, bytes)) (hz : z.cells.size = size) (hs0 : 0 < size) (hb0 : 0 < bytes)
    (v : Value) (n : Nat) (xs ys : List Value) (A : Option Addr) (m c : Nat) (hs : a.eval s = v) (hx : a.eval x = .slice A m c)
    (HO : W.ownsRow base e size v n xs) (HC : Cells W A m size ys) (hbase : base ≤ W.heap.size) (hl : (n + m) * bytes ≤ 140737488355328)
    (h : ∀ v1 w1, w1.ownsRow base e size v1 (n + m) (xs ++ ys) → W.grownBy w1 v.ownBlock → (v1.ownBlock = v.ownBlock ∨ v1.ownBlock = some W.heap.size) → K (a.put o.dst v1) w1) :
    if Region.wanted o (yielded ops a.tmps) = true then Oper.wp P o a W K Q else E := by
  have hw : Region.wanted o (yielded ops a.tmps) = true := by simp [Region.wanted, hgd]
  rw [if_pos hw]
  exact wp_append_cells base s x t e z size bytes ho ht hinfo hz hs0 hb0 v n xs ys A m c hs hx HO HC hbase hl h
end Go.Proofs.Ytanimonhnngfkaa.Own

/- Numbers of bits in a row of the call's own. -/
set_option linter.unusedVariables false
set_option linter.unusedSimpArgs false
namespace Go.Proofs.Ytanimonhnngfkaa.Own
open Go.RowKit

theorem infoBits : (Try.prog.info? 45).map (fun i => (i.zero, i.size, i.bytes)) = some (some (.agg #[.int .i64 0, .int .u64 0, .int .u64 0]), 3, 24) := by kernel_rfl
def Num.cells (x : Num) : List Value := [.int .i64 x.W, .int .u64 x.Hi, .int .u64 x.Lo]
def numsV (l : List Num) : List Value := l.flatMap Num.cells
theorem numsV_append (l m : List Num) : numsV (l ++ m) = numsV l ++ numsV m := List.flatMap_append ..
theorem numsV_one (x : Num) : numsV [x] = [.int .i64 x.W, .int .u64 x.Hi, .int .u64 x.Lo] := by simp [numsV, Num.cells]
theorem numsV_length (l : List Num) : (numsV l).length = l.length * 3 := by
  induction l with
  | nil => rfl
  | cons x l ih => unfold numsV at *; rw [List.flatMap_cons, List.length_append, ih, List.length_cons]; show 3 + _ = _; omega
theorem numsV_get (l : List Num) : ∀ j, j < l.length → (numsV l)[j * 3]? = some (.int .i64 (l.getD j zeroNum).W) ∧ (numsV l)[j * 3 + 1]? = some (.int .u64 (l.getD j zeroNum).Hi) ∧ (numsV l)[j * 3 + 2]? = some (.int .u64 (l.getD j zeroNum).Lo) := by
  induction l with
  | nil => intro j hj; simp at hj
  | cons x l ih =>
    intro j hj
    have e : numsV (x :: l) = .int .i64 x.W :: .int .u64 x.Hi :: .int .u64 x.Lo :: numsV l := by unfold numsV; rw [List.flatMap_cons]; rfl
    rw [e]
    cases j with
    | zero => exact ⟨rfl, rfl, rfl⟩
    | succ j =>
      have h := ih j (by simpa using hj)
      rw [show (j + 1) * 3 = j * 3 + 3 by omega, List.getD_cons_succ]
      exact h
theorem own_nums {w : World} {base n : Nat} {v : Value} {l : List Num} (hl : l.length = n) (hn : n ≤ 9223372036854775807) (h : w.ownsRow base 45 3 v n (numsV l)) : ∃ A c, v = .slice A n c ∧ ReadsNums w A n l := by
  rcases h.2 with ⟨rfl, h0⟩ | ⟨g, cap, cur, rfl, hg, hh, hnc, hcm, hcs, ht⟩
  · exact ⟨none, 0, by rw [h0], hl, hn, fun h => by omega⟩
  · refine ⟨some ⟨g, 0, none⟩, cap, rfl, hl, hn, fun hp => ⟨g, 0, rfl, (Array.getElem?_eq_some_iff.1 hh).1, fun j hj => ?_⟩⟩
    obtain ⟨c0, c1, c2⟩ := numsV_get l j (by omega)
    have k : ∀ (i : Nat) (v : Value), (numsV l)[i]? = some v → w.cell? ⟨g, i, none⟩ = some v := fun i v hv => by
      have := h.cells (g := g) rfl i v hv
      rwa [add_plain] at this
    rw [Nat.zero_add, Nat.zero_add, Nat.zero_add]
    exact ⟨k _ _ c0, k _ _ c1, k _ _ c2⟩
end Go.Proofs.Ytanimonhnngfkaa.Own

/- A region that draws its order, whose own operations only read: walked once, in a class of worlds that its callees stay in. -/
set_option linter.unusedVariables false
set_option linter.unusedSimpArgs false
namespace Go.Proofs.Ytanimonhnngfkaa.Own
open Go.RowKit

theorem region_class {P : Program} (C : World → Prop) {id : Nat} {Q : Exit → Act → World → Prop} {a : Act} {w : World} {l : List Oper} (hm : P.follows .mixedOrders = true) (hB : Region.lexB .any l.toArray = true) (hC : C w.drew)
    (h : wpQuiet P l.toArray C (fun a' => ∀ w', C w' → Q .normal a' w') l a) : (Code.region id l.toArray true).wp P Q a w :=
  wp_region_quiet hm hB hC (by simpa using h)
end Go.Proofs.Ytanimonhnngfkaa.Own

/- An array's cells, and may's two closures. -/
set_option linter.unusedVariables false
set_option linter.unusedSimpArgs false
namespace Go.Proofs.Ytanimonhnngfkaa.Own
open Go.RowKit

/-- An array, as it is told. -/
structure Arr where
  nm : ByteArray
  kd : Int
  W : Int
  Rate : Int
  Burst : Int
  cs : List Num
  ls : List Int
def Arr.vals (a : Arr) (A : Option Addr) (n c : Nat) (B : Option Addr) (m d : Nat) : Array Value :=
  #[.string a.nm, .int .u8 a.kd, .int .i64 a.W, .int .i64 a.Rate, .int .i64 a.Burst, .slice A n c, .slice B m d]
/-- A cell that may be in an array. -/
def Arr.okC (a : Arr) (x : Num) : Prop := x.ok ∧ x.W = a.W ∧ (a.kd = 5 → x.Lo ≤ a.Burst)

structure MB (w : World) (q bx p : Nat) (x : Num) (vals : Array Value) (W : World) : Prop where
  hx : W.heap[q]? = some (.cells #[.int .i64 x.W, .int .u64 x.Hi, .int .u64 x.Lo] 45 (0, 0))
  hb : W.heap[bx]? = some (.cells #[.pointer (some ⟨p, 0, none⟩)] 65 (0, 0))
  hp : W.heap[p]? = some (.cells vals 63 (0, 0))
  below : Below w.heap.size w W
theorem MB.next {w : World} {q bx p : Nat} {x : Num} {vals : Array Value} {W W' : World} (h : MB w q bx p x vals W) (hb : Below W.heap.size W W') : MB w q bx p x vals W' :=
  ⟨(hb.block _ (Array.getElem?_eq_some_iff.1 h.hx).1).trans h.hx, (hb.block _ (Array.getElem?_eq_some_iff.1 h.hb).1).trans h.hb, (hb.block _ (Array.getElem?_eq_some_iff.1 h.hp).1).trans h.hp, h.below.trans (hb.mono h.below.size)⟩
theorem MB.all {w : World} {q bx p : Nat} {x : Num} {a : Arr} {A : Option Addr} {n c : Nat} {B : Option Addr} {m d : Nat} {W : World} (h : MB w q bx p x (a.vals A n c B m d) W) :
    (((W.cell? ⟨q, 0, none⟩ = some (.int .i64 x.W) ∧ W.cell? ⟨q, 1, none⟩ = some (.int .u64 x.Hi) ∧ W.cell? ⟨q, 2, none⟩ = some (.int .u64 x.Lo)) ∧ W.cell? ⟨bx, 0, none⟩ = some (.pointer (some ⟨p, 0, none⟩))) ∧
      (W.cell? ⟨p, 1, none⟩ = some (.int .u8 a.kd) ∧ W.cell? ⟨p, 2, none⟩ = some (.int .i64 a.W) ∧ W.cell? ⟨p, 4, none⟩ = some (.int .i64 a.Burst))) ∧ MB w q bx p x (a.vals A n c B m d) W :=
  ⟨⟨⟨⟨cellOf h.hx 0, cellOf h.hx 1, cellOf h.hx 2⟩, cellOf h.hb 0⟩, cellOf h.hp 1, cellOf h.hp 2, cellOf h.hp 4⟩, h⟩

set_option maxRecDepth 100000 in
set_option maxHeartbeats 2000000 in
theorem bad1_no (x : Num) (a : Arr) (A : Option Addr) (n c : Nat) (B : Option Addr) (m d : Nat) (bx p : Nat) (w : World) (hw : x.wf) (hkd : a.kd = 3 ∨ a.kd = 4 ∨ a.kd = 5) (ho : a.okC x) (hB1 : 0 ≤ a.Burst) (hB2 : a.Burst ≤ 9223372036854775807)
    (hb : w.heap[bx]? = some (.cells #[.pointer (some ⟨p, 0, none⟩)] 65 (0, 0))) (hp : w.heap[p]? = some (.cells (a.vals A n c B m d) 63 (0, 0))) :
    Calls Try.prog 33 #[x.v, .pointer (some ⟨bx, 0, none⟩)] w fun e w' => e = .returned (.bool false) ∧ Below w.heap.size w w' := by
  have HC : Aside (∀ V, Calls Try.prog 27 #[x.v] V fun e w' => e = .returned (.bool true) ∧ Below V.heap.size V w') := fun V => check_good x hw ho.1 V
  have hM : MB w w.heap.size bx p x (a.vals A n c B m d) (w.alloc (.cells #[.int .i64 x.W, .int .u64 x.Hi, .int .u64 x.Lo] 45)).drew :=
    ⟨heap_alloc_new w _, (Below.heap_alloc w _ _ (Array.getElem?_eq_some_iff.1 hb).1).trans hb, (Below.heap_alloc w _ _ (Array.getElem?_eq_some_iff.1 hp).1).trans hp, ((Below.refl _ _).alloc (Nat.le_refl _) _).drew⟩
  have s0 := hM.all
  have hlo := ho.2.2
  have hW : x.W = a.W := ho.2.1
  have hwr : IntKind.u64.wrap a.Burst = a.Burst := by rw [IntKind.wrap_u64]; omega
  obtain ⟨_, _, h0, h1⟩ := hw
  clear ho hM hb hp
  obtain ⟨nm, kd, aW, Rate, Burst, cs, ls⟩ := a
  obtain ⟨xW, xh, xl⟩ := x
  simp only at hW hwr h0 h1 hlo hB1 hB2 hkd
  obtain rfl : xW = aW := hW
  unfold Num.v at *
  simp only at *
  have hL : Aside (kd = 5 → xl ≤ Burst) := hlo
  clear hlo
  by_cases hk : kd = 5
  · have hle := hL.out hk
    subst hk
    have hd : decide (Burst < xl) = false := decide_eq_false (by omega)
    go_enter Try.func33, Try.ntmps33
    go_wp2_with fail
    go_region_held3 (fun W => (((W.cell? ⟨w.heap.size, 0, none⟩ = some (.int .i64 xW) ∧ W.cell? ⟨w.heap.size, 1, none⟩ = some (.int .u64 xh) ∧ W.cell? ⟨w.heap.size, 2, none⟩ = some (.int .u64 xl)) ∧ W.cell? ⟨bx, 0, none⟩ = some (.pointer (some ⟨p, 0, none⟩))) ∧
        (W.cell? ⟨p, 1, none⟩ = some (.int .u8 5) ∧ W.cell? ⟨p, 2, none⟩ = some (.int .i64 xW) ∧ W.cell? ⟨p, 4, none⟩ = some (.int .i64 Burst))) ∧ MB w w.heap.size bx p ⟨xW, xh, xl⟩ ((⟨nm, 5, xW, Rate, Burst, cs, ls⟩ : Arr).vals A n c B m d) W)
      (first | exact s0 | assumption | exact (MB.next (And.right (by assumption)) hb5).all)
      ((go_simp; (first
        | (go_at_call 27; refine Calls.mono (HC.out _) ?_; rintro e w5 ⟨rfl, hb5⟩)
        | fail)))
    go_wp2
    go_ret
    rename_i hh
    exact ⟨rfl, hh.2.below⟩
  · have hkb : (kd == 5) = false := by simp [hk]
    have hne : ¬ kd = 5 := hk
    go_enter Try.func33, Try.ntmps33
    go_wp2_with fail
    obtain ⟨C, HF⟩ : ∃ C : World → Prop, Aside (∀ W, C W ↔ (((W.cell? ⟨w.heap.size, 0, none⟩ = some (.int .i64 xW) ∧ W.cell? ⟨w.heap.size, 1, none⟩ = some (.int .u64 xh) ∧ W.cell? ⟨w.heap.size, 2, none⟩ = some (.int .u64 xl)) ∧ W.cell? ⟨bx, 0, none⟩ = some (.pointer (some ⟨p, 0, none⟩))) ∧
        (W.cell? ⟨p, 1, none⟩ = some (.int .u8 kd) ∧ W.cell? ⟨p, 2, none⟩ = some (.int .i64 xW) ∧ W.cell? ⟨p, 4, none⟩ = some (.int .i64 Burst))) ∧ MB w w.heap.size bx p ⟨xW, xh, xl⟩ ((⟨nm, kd, xW, Rate, Burst, cs, ls⟩ : Arr).vals A n c B m d) W) := ⟨_, fun W => Iff.rfl⟩
    refine region_class C (by kernel_rfl) (by kernel_rfl) ((HF.out _).2 s0) ?_
    clear s0
    repeat
      (first
        | go_big_quiet_skip
        | (go_big_quiet_want; first
            | (go_big_quiet_op; go_big_quiet_on)
            | (unfold Oper.quiet; apply Exists.intro; refine ⟨fun W hW => ?_, ?_⟩
               · obtain ⟨⟨⟨⟨k0, k1, k2⟩, k3⟩, k4, k5, k6⟩, k7⟩ := (HF.out W).1 hW
                 go_simp
                 first
                   | with_reducible rfl
                   | (go_at_call 27; refine Calls.mono (HC.out _) ?_; rintro e w5 ⟨he, hb5⟩; exact ⟨he, (HF.out w5).2 (MB.next k7 hb5).all⟩)
               go_simp
               go_big_quiet_on)))
    refine wpQuiet_nil ?_
    intro W' hW'
    have hM := ((HF.out W').1 hW').2.below
    clear hW' HF
    go_wp2
    go_ret
    exact ⟨rfl, hM⟩
end Go.Proofs.Ytanimonhnngfkaa.Own

/- slices.ContainsFunc over may's two closures, where nothing is bad; may, of an array that may be. -/
set_option linter.unusedVariables false
set_option linter.unusedSimpArgs false
namespace Go.Proofs.Ytanimonhnngfkaa.Own
open Go.RowKit

/-- The box of may's receiver, and the array. -/
structure MA (w : World) (bx p : Nat) (vals : Array Value) (W : World) : Prop where
  hb : W.heap[bx]? = some (.cells #[.pointer (some ⟨p, 0, none⟩)] 65 (0, 0))
  hp : W.heap[p]? = some (.cells vals 63 (0, 0))
  below : Below w.heap.size w W
theorem MA.next {w : World} {bx p : Nat} {vals : Array Value} {W W' : World} (h : MA w bx p vals W) (hb : Below W.heap.size W W') : MA w bx p vals W' :=
  ⟨(hb.block _ (Array.getElem?_eq_some_iff.1 h.hb).1).trans h.hb, (hb.block _ (Array.getElem?_eq_some_iff.1 h.hp).1).trans h.hp, h.below.trans (hb.mono h.below.size)⟩

/-- An array that may be. -/
structure Arr.ok (a : Arr) : Prop where
  kd : a.kd = 3 ∨ a.kd = 4 ∨ a.kd = 5
  scal : (a.kd ≠ 5 → a.Rate = 0 ∧ a.Burst = 0 ∧ a.ls = []) ∧ (a.kd = 3 → 1 ≤ a.W ∧ a.W ≤ 128) ∧ (a.kd ≠ 3 → a.W = 64) ∧ (a.kd = 5 → 0 ≤ a.Rate ∧ a.Rate ≤ 65535 ∧ 1 ≤ a.Burst ∧ a.Burst ≤ 65535 ∧ a.ls.length = a.cs.length)
  len : 1 ≤ a.cs.length ∧ a.cs.length ≤ 4096
  cells : ∀ j, j < a.cs.length → (a.cs.getD j zeroNum).wf ∧ a.okC (a.cs.getD j zeroNum)
  last : ∀ j, j < a.ls.length → 0 ≤ a.ls.getD j 0

set_option maxRecDepth 100000 in
set_option maxHeartbeats 2000000 in
theorem idx1_none (a : Arr) (ho : a.ok) (A' : Option Addr) (n' c' : Nat) (B : Option Addr) (m d : Nat) (A : Option Addr) (n c bx p : Nat) (w : World) (hR : ReadsNums w A n a.cs)
    (hb : w.heap[bx]? = some (.cells #[.pointer (some ⟨p, 0, none⟩)] 65 (0, 0))) (hp : w.heap[p]? = some (.cells (a.vals A' n' c' B m d) 63 (0, 0))) :
    Calls Try.prog 46 #[.slice A n c, .func (.func 33) #[] #[.pointer (some ⟨bx, 0, none⟩)]] w fun e w' => e = .returned (.int .i64 (-1)) ∧ Below w.heap.size w w' := by
  have hnm := hR.2.1
  have hBb : 0 ≤ a.Burst ∧ a.Burst ≤ 9223372036854775807 := by
    have h1 := ho.scal
    rcases ho.kd with h | h | h
    · have := (h1.1 (by omega)).2.1; omega
    · have := (h1.1 (by omega)).2.1; omega
    · have := h1.2.2.2 h; omega
  have HR : Aside (ReadsNums w A n a.cs) := hR
  have HL : Aside (a.cs.length = n) := hR.1
  have HC : Aside (∀ j V, j < n → MA w bx p (a.vals A' n' c' B m d) V → Calls Try.prog 33 #[(a.cs.getD j zeroNum).v, .pointer (some ⟨bx, 0, none⟩)] V fun e w' => e = .returned (.bool false) ∧ Below V.heap.size V w') :=
    fun j V hj hV => bad1_no _ a A' n' c' B m d bx p V (ho.cells j (by rw [HL.out]; exact hj)).1 ho.kd (ho.cells j (by rw [HL.out]; exact hj)).2 hBb.1 hBb.2 hV.hb hV.hp
  have h0 : MA w bx p (a.vals A' n' c' B m d) w := ⟨hb, hp, Below.refl _ _⟩
  clear hR ho hb hp hBb
  go_enter Try.func46, Try.ntmps46
  go_wp2
  go_loopw [8] (fun i wr => ∃ k : Nat, k ≤ n ∧ i = .int .i64 k ∧ MA w bx p (a.vals A' n' c' B m d) wr) (fun i _ => n - (intOf i).toNat)
  case atStart => exact ⟨0, Nat.zero_le _, rfl, h0⟩
  case round =>
    obtain ⟨k, hk, rfl, hM⟩ := hrel
    clear h0
    by_cases hlt : k < n
    · obtain ⟨b, off, hA, hbs, hcells⟩ := (HR.out.below hM.below).2.2 (by omega)
      subst hA
      obtain ⟨q0, q1, q2⟩ := hcells k hlt
      rw [← Nat.add_assoc] at q1 q2
      have HC1 := HC.out k wr hlt hM
      generalize a.cs.getD k zeroNum = x at *
      obtain ⟨xW, xh, xl⟩ := x
      unfold Num.v at HC1
      simp only at q0 q1 q2 HC1
      have HC2 : Aside _ := HC1
      have hk0 : (0 : Int) ≤ (k : Int) := by omega
      have hk1 : (k : Int) < (n : Int) := by omega
      clear hcells HC1
      go_wp2_with fail
      refine Calls.mono HC2.out ?_
      rintro e w5 ⟨rfl, hb5⟩
      have hM5 := hM.next hb5
      go_wp2
      go_roundw
      case rel => exact ⟨k + 1, by omega, by go_num, hM5⟩
      case measure => (simp [intOf]; omega)
    · obtain rfl : k = n := by omega
      go_wp2
      go_ret
      exact ⟨rfl, hM.below⟩
theorem has1_none (a : Arr) (ho : a.ok) (A' : Option Addr) (n' c' : Nat) (B : Option Addr) (m d : Nat) (A : Option Addr) (n c bx p : Nat) (w : World) (hR : ReadsNums w A n a.cs)
    (hb : w.heap[bx]? = some (.cells #[.pointer (some ⟨p, 0, none⟩)] 65 (0, 0))) (hp : w.heap[p]? = some (.cells (a.vals A' n' c' B m d) 63 (0, 0))) :
    Calls Try.prog 35 #[.slice A n c, .func (.func 33) #[] #[.pointer (some ⟨bx, 0, none⟩)]] w fun e w' => e = .returned (.bool false) ∧ Below w.heap.size w w' := by
  have HI := idx1_none a ho A' n' c' B m d A n c bx p w hR hb hp
  clear hb hp hR
  go_enter Try.func35, Try.ntmps35
  go_wp2_with fail
  refine Calls.mono HI ?_
  rintro e w5 ⟨rfl, hb5⟩
  go_wp2
  go_ret
  exact ⟨rfl, hb5⟩
theorem past_any (x : Int) (w : World) : Calls Try.prog 34 #[.int .i64 x] w fun e w' => e = .returned (.bool (decide (x < 0))) ∧ w = w' := by
  go_enter Try.func34, Try.ntmps34
  go_wp2
  go_ret
  exact ⟨rfl, rfl⟩
set_option maxHeartbeats 1000000 in
theorem idx2_none (xs : List Int) (h0 : ∀ j, j < xs.length → 0 ≤ xs.getD j 0) (A : Option Addr) (n c : Nat) (w : World) (hR : Reads w .i64 A n xs) :
    Calls Try.prog 47 #[.slice A n c, .func (.func 34) #[] #[]] w fun e w' => e = .returned (.int .i64 (-1)) ∧ w' = w := by
  have hnm := hR.2.1
  have HR : Aside (Reads w .i64 A n xs) := hR
  have HX : Aside (∀ j, j < n → 0 ≤ xs.getD j 0) := fun j hj => h0 j (by rw [hR.1]; exact hj)
  clear hR h0
  go_enter Try.func47, Try.ntmps47
  go_wp2
  go_loop [8] (fun i => ∃ k : Nat, k ≤ n ∧ i = .int .i64 k) (fun i => n - (intOf i).toNat)
  case atStart => exact ⟨0, Nat.zero_le _, rfl⟩
  case round =>
    obtain ⟨k, hk, rfl⟩ := hrel
    by_cases hlt : k < n
    · obtain ⟨ad, rfl, hc⟩ := HR.out.at_ (k : Int) (by omega) (by omega)
      simp only [Int.toNat_natCast, rd] at hc
      have hx := HX.out k hlt
      generalize xs.getD k 0 = x at *
      have hd : decide (x < 0) = false := decide_eq_false (by omega)
      have hk0 : (0 : Int) ≤ (k : Int) := by omega
      have hk1 : (k : Int) < (n : Int) := by omega
      go_wp2_with fail
      refine (past_any _ _).mono ?_
      rintro e w5 ⟨rfl, rfl⟩
      rw [hd]
      go_wp2
      go_round
      case rel => exact ⟨k + 1, by omega, by go_num⟩
      case measure => (simp [intOf]; omega)
    · obtain rfl : k = n := by omega
      go_wp2
      go_ret
      exact ⟨rfl, rfl⟩
theorem has2_none (xs : List Int) (h0 : ∀ j, j < xs.length → 0 ≤ xs.getD j 0) (A : Option Addr) (n c : Nat) (w : World) (hR : Reads w .i64 A n xs) :
    Calls Try.prog 36 #[.slice A n c, .func (.func 34) #[] #[]] w fun e w' => e = .returned (.bool false) ∧ w' = w := by
  have HI := idx2_none xs h0 A n c w hR
  clear hR h0
  go_enter Try.func36, Try.ntmps36
  go_wp2_with fail
  refine Calls.mono HI ?_
  rintro e w5 ⟨rfl, rfl⟩
  go_wp2
  go_ret
  exact ⟨rfl, rfl⟩
end Go.Proofs.Ytanimonhnngfkaa.Own

/- may's closures, of any array; slices.ContainsFunc over them. -/
set_option linter.unusedVariables false
set_option linter.unusedSimpArgs false
namespace Go.Proofs.Ytanimonhnngfkaa.Own
open Go.RowKit

set_option maxRecDepth 100000 in
set_option maxHeartbeats 2000000 in
theorem bad1_chk (x : Num) (a : Arr) (A : Option Addr) (n c : Nat) (B : Option Addr) (m d : Nat) (bx p : Nat) (w : World) (hw : x.wf) (hch : ¬ x.ok)
    (hb : w.heap[bx]? = some (.cells #[.pointer (some ⟨p, 0, none⟩)] 65 (0, 0))) (hp : w.heap[p]? = some (.cells (a.vals A n c B m d) 63 (0, 0))) :
    Calls Try.prog 33 #[x.v, .pointer (some ⟨bx, 0, none⟩)] w fun e w' => e = .returned (.bool true) ∧ Below w.heap.size w w' := by
  have HC : Aside (∀ V, Calls Try.prog 27 #[x.v] V fun e w' => e = .returned (.bool false) ∧ Below V.heap.size V w') := fun V => check_bad x hw hch V
  have hM : MB w w.heap.size bx p x (a.vals A n c B m d) (w.alloc (.cells #[.int .i64 x.W, .int .u64 x.Hi, .int .u64 x.Lo] 45)).drew :=
    ⟨heap_alloc_new w _, (Below.heap_alloc w _ _ (Array.getElem?_eq_some_iff.1 hb).1).trans hb, (Below.heap_alloc w _ _ (Array.getElem?_eq_some_iff.1 hp).1).trans hp, ((Below.refl _ _).alloc (Nat.le_refl _) _).drew⟩
  have s0 := hM.all
  obtain ⟨_, _, h0, h1⟩ := hw
  clear hM hb hp
  obtain ⟨nm, kd, aW, Rate, Burst, cs, ls⟩ := a
  obtain ⟨xW, xh, xl⟩ := x
  simp only at *
  unfold Num.v at *
  simp only at *
  clear hch
  go_enter Try.func33, Try.ntmps33
  go_wp2_with fail
  obtain ⟨C, HF⟩ : ∃ C : World → Prop, Aside (∀ W, C W ↔ (((W.cell? ⟨w.heap.size, 0, none⟩ = some (.int .i64 xW) ∧ W.cell? ⟨w.heap.size, 1, none⟩ = some (.int .u64 xh) ∧ W.cell? ⟨w.heap.size, 2, none⟩ = some (.int .u64 xl)) ∧ W.cell? ⟨bx, 0, none⟩ = some (.pointer (some ⟨p, 0, none⟩))) ∧
      (W.cell? ⟨p, 1, none⟩ = some (.int .u8 kd) ∧ W.cell? ⟨p, 2, none⟩ = some (.int .i64 aW) ∧ W.cell? ⟨p, 4, none⟩ = some (.int .i64 Burst))) ∧ MB w w.heap.size bx p ⟨xW, xh, xl⟩ ((⟨nm, kd, aW, Rate, Burst, cs, ls⟩ : Arr).vals A n c B m d) W) := ⟨_, fun W => Iff.rfl⟩
  refine region_class C (by kernel_rfl) (by kernel_rfl) ((HF.out _).2 s0) ?_
  clear s0
  repeat
    (first
      | go_big_quiet_skip
      | (go_big_quiet_want; first
          | (go_big_quiet_op; go_big_quiet_on)
          | (unfold Oper.quiet; apply Exists.intro; refine ⟨fun W hW => ?_, ?_⟩
             · obtain ⟨⟨⟨⟨k0, k1, k2⟩, k3⟩, k4, k5, k6⟩, k7⟩ := (HF.out W).1 hW
               go_simp
               first
                 | with_reducible rfl
                 | (go_at_call 27; refine Calls.mono (HC.out _) ?_; rintro e w5 ⟨he, hb5⟩; exact ⟨he, (HF.out w5).2 (MB.next k7 hb5).all⟩)
             go_simp
             go_big_quiet_on)))
  refine wpQuiet_nil ?_
  intro W' hW'
  have hM := ((HF.out W').1 hW').2.below
  clear hW' HF
  go_wp2
  go_ret
  exact ⟨rfl, hM⟩
set_option maxRecDepth 100000 in
set_option maxHeartbeats 2000000 in
theorem bad1_wid (x : Num) (a : Arr) (A : Option Addr) (n c : Nat) (B : Option Addr) (m d : Nat) (bx p : Nat) (w : World) (hw : x.wf) (hch : x.ok) (hne : ¬ x.W = a.W)
    (hb : w.heap[bx]? = some (.cells #[.pointer (some ⟨p, 0, none⟩)] 65 (0, 0))) (hp : w.heap[p]? = some (.cells (a.vals A n c B m d) 63 (0, 0))) :
    Calls Try.prog 33 #[x.v, .pointer (some ⟨bx, 0, none⟩)] w fun e w' => e = .returned (.bool true) ∧ Below w.heap.size w w' := by
  have HC : Aside (∀ V, Calls Try.prog 27 #[x.v] V fun e w' => e = .returned (.bool true) ∧ Below V.heap.size V w') := fun V => check_good x hw hch V
  have hM : MB w w.heap.size bx p x (a.vals A n c B m d) (w.alloc (.cells #[.int .i64 x.W, .int .u64 x.Hi, .int .u64 x.Lo] 45)).drew :=
    ⟨heap_alloc_new w _, (Below.heap_alloc w _ _ (Array.getElem?_eq_some_iff.1 hb).1).trans hb, (Below.heap_alloc w _ _ (Array.getElem?_eq_some_iff.1 hp).1).trans hp, ((Below.refl _ _).alloc (Nat.le_refl _) _).drew⟩
  have s0 := hM.all
  obtain ⟨_, _, h0, h1⟩ := hw
  clear hM hb hp
  obtain ⟨nm, kd, aW, Rate, Burst, cs, ls⟩ := a
  obtain ⟨xW, xh, xl⟩ := x
  simp only at *
  unfold Num.v at *
  simp only at *
  have hxc : (xW != aW) = true := by simp [hne]
  clear hch
  go_enter Try.func33, Try.ntmps33
  go_wp2_with fail
  obtain ⟨C, HF⟩ : ∃ C : World → Prop, Aside (∀ W, C W ↔ (((W.cell? ⟨w.heap.size, 0, none⟩ = some (.int .i64 xW) ∧ W.cell? ⟨w.heap.size, 1, none⟩ = some (.int .u64 xh) ∧ W.cell? ⟨w.heap.size, 2, none⟩ = some (.int .u64 xl)) ∧ W.cell? ⟨bx, 0, none⟩ = some (.pointer (some ⟨p, 0, none⟩))) ∧
      (W.cell? ⟨p, 1, none⟩ = some (.int .u8 kd) ∧ W.cell? ⟨p, 2, none⟩ = some (.int .i64 aW) ∧ W.cell? ⟨p, 4, none⟩ = some (.int .i64 Burst))) ∧ MB w w.heap.size bx p ⟨xW, xh, xl⟩ ((⟨nm, kd, aW, Rate, Burst, cs, ls⟩ : Arr).vals A n c B m d) W) := ⟨_, fun W => Iff.rfl⟩
  refine region_class C (by kernel_rfl) (by kernel_rfl) ((HF.out _).2 s0) ?_
  clear s0
  repeat
    (first
      | go_big_quiet_skip
      | (go_big_quiet_want; first
          | (go_big_quiet_op; go_big_quiet_on)
          | (unfold Oper.quiet; apply Exists.intro; refine ⟨fun W hW => ?_, ?_⟩
             · obtain ⟨⟨⟨⟨k0, k1, k2⟩, k3⟩, k4, k5, k6⟩, k7⟩ := (HF.out W).1 hW
               go_simp
               first
                 | with_reducible rfl
                 | (go_at_call 27; refine Calls.mono (HC.out _) ?_; rintro e w5 ⟨he, hb5⟩; exact ⟨he, (HF.out w5).2 (MB.next k7 hb5).all⟩)
             go_simp
             go_big_quiet_on)))
  refine wpQuiet_nil ?_
  intro W' hW'
  have hM := ((HF.out W').1 hW').2.below
  clear hW' HF
  go_wp2
  go_ret
  exact ⟨rfl, hM⟩
set_option maxRecDepth 100000 in
set_option maxHeartbeats 2000000 in
theorem bad1_bur (x : Num) (a : Arr) (A : Option Addr) (n c : Nat) (B : Option Addr) (m d : Nat) (bx p : Nat) (w : World) (hw : x.wf) (hch : x.ok) (hne : x.W = a.W) (h5 : a.kd = 5) (hB1 : 0 ≤ a.Burst) (hB2 : a.Burst ≤ 9223372036854775807) (hlt : a.Burst < x.Lo)
    (hb : w.heap[bx]? = some (.cells #[.pointer (some ⟨p, 0, none⟩)] 65 (0, 0))) (hp : w.heap[p]? = some (.cells (a.vals A n c B m d) 63 (0, 0))) :
    Calls Try.prog 33 #[x.v, .pointer (some ⟨bx, 0, none⟩)] w fun e w' => e = .returned (.bool true) ∧ Below w.heap.size w w' := by
  have HC : Aside (∀ V, Calls Try.prog 27 #[x.v] V fun e w' => e = .returned (.bool true) ∧ Below V.heap.size V w') := fun V => check_good x hw hch V
  have hM : MB w w.heap.size bx p x (a.vals A n c B m d) (w.alloc (.cells #[.int .i64 x.W, .int .u64 x.Hi, .int .u64 x.Lo] 45)).drew :=
    ⟨heap_alloc_new w _, (Below.heap_alloc w _ _ (Array.getElem?_eq_some_iff.1 hb).1).trans hb, (Below.heap_alloc w _ _ (Array.getElem?_eq_some_iff.1 hp).1).trans hp, ((Below.refl _ _).alloc (Nat.le_refl _) _).drew⟩
  have s0 := hM.all
  obtain ⟨_, _, h0, h1⟩ := hw
  clear hM hb hp
  obtain ⟨nm, kd, aW, Rate, Burst, cs, ls⟩ := a
  obtain ⟨xW, xh, xl⟩ := x
  simp only at *
  unfold Num.v at *
  simp only at *
  obtain rfl : xW = aW := hne
  subst h5
  have hwr : IntKind.u64.wrap Burst = Burst := by rw [IntKind.wrap_u64]; omega
  have hd : decide (Burst < xl) = true := decide_eq_true hlt
  clear hch hlt
  go_enter Try.func33, Try.ntmps33
  go_wp2_with fail
  obtain ⟨C, HF⟩ : ∃ C : World → Prop, Aside (∀ W, C W ↔ (((W.cell? ⟨w.heap.size, 0, none⟩ = some (.int .i64 xW) ∧ W.cell? ⟨w.heap.size, 1, none⟩ = some (.int .u64 xh) ∧ W.cell? ⟨w.heap.size, 2, none⟩ = some (.int .u64 xl)) ∧ W.cell? ⟨bx, 0, none⟩ = some (.pointer (some ⟨p, 0, none⟩))) ∧
      (W.cell? ⟨p, 1, none⟩ = some (.int .u8 5) ∧ W.cell? ⟨p, 2, none⟩ = some (.int .i64 xW) ∧ W.cell? ⟨p, 4, none⟩ = some (.int .i64 Burst))) ∧ MB w w.heap.size bx p ⟨xW, xh, xl⟩ ((⟨nm, 5, xW, Rate, Burst, cs, ls⟩ : Arr).vals A n c B m d) W) := ⟨_, fun W => Iff.rfl⟩
  refine region_class C (by kernel_rfl) (by kernel_rfl) ((HF.out _).2 s0) ?_
  clear s0
  repeat
    (first
      | go_big_quiet_skip
      | (go_big_quiet_want; first
          | (go_big_quiet_op; go_big_quiet_on)
          | (unfold Oper.quiet; apply Exists.intro; refine ⟨fun W hW => ?_, ?_⟩
             · obtain ⟨⟨⟨⟨k0, k1, k2⟩, k3⟩, k4, k5, k6⟩, k7⟩ := (HF.out W).1 hW
               go_simp
               first
                 | with_reducible rfl
                 | (go_at_call 27; refine Calls.mono (HC.out _) ?_; rintro e w5 ⟨he, hb5⟩; exact ⟨he, (HF.out w5).2 (MB.next k7 hb5).all⟩)
             go_simp
             go_big_quiet_on)))
  refine wpQuiet_nil ?_
  intro W' hW'
  have hM := ((HF.out W').1 hW').2.below
  clear hW' HF
  go_wp2
  go_ret
  exact ⟨rfl, hM⟩
/-- A cell of an array, told as a Bool. -/
def Arr.okCB (a : Arr) (x : Num) : Bool := x.okB && (x.W == a.W && !(a.kd == 5 && decide (a.Burst < x.Lo)))
theorem Arr.okCB_iff (a : Arr) (x : Num) : a.okCB x = true ↔ a.okC x := by
  unfold Arr.okCB Arr.okC
  rw [Bool.and_eq_true, Bool.and_eq_true, Num.okB_iff, beq_iff_eq]
  by_cases h5 : a.kd = 5
  · simp [h5]
  · simp [h5]
theorem bad1_any (x : Num) (a : Arr) (A : Option Addr) (n c : Nat) (B : Option Addr) (m d : Nat) (bx p : Nat) (w : World) (hw : x.wf) (hkd : a.kd = 3 ∨ a.kd = 4 ∨ a.kd = 5) (hB1 : 0 ≤ a.Burst) (hB2 : a.Burst ≤ 9223372036854775807)
    (hb : w.heap[bx]? = some (.cells #[.pointer (some ⟨p, 0, none⟩)] 65 (0, 0))) (hp : w.heap[p]? = some (.cells (a.vals A n c B m d) 63 (0, 0))) :
    Calls Try.prog 33 #[x.v, .pointer (some ⟨bx, 0, none⟩)] w fun e w' => e = .returned (.bool (!a.okCB x)) ∧ Below w.heap.size w w' := by
  by_cases ho : a.okC x
  · rw [(a.okCB_iff x).2 ho]
    exact bad1_no x a A n c B m d bx p w hw hkd ho hB1 hB2 hb hp
  · have e : a.okCB x = false := by cases h : a.okCB x; rfl; exact absurd ((a.okCB_iff x).1 h) ho
    rw [e]
    by_cases hch : x.ok
    · by_cases hW : x.W = a.W
      · have h5 : a.kd = 5 := by
          by_cases h5 : a.kd = 5
          · exact h5
          · exact absurd ⟨hch, hW, fun h => absurd h h5⟩ ho
        have hlt : a.Burst < x.Lo := by
          rcases Int.lt_or_le a.Burst x.Lo with h | h
          · exact h
          · exact absurd ⟨hch, hW, fun _ => h⟩ ho
        exact bad1_bur x a A n c B m d bx p w hw hch hW h5 hB1 hB2 hlt hb hp
      · exact bad1_wid x a A n c B m d bx p w hw hch hW hb hp
    · exact bad1_chk x a A n c B m d bx p w hw hch hb hp
end Go.Proofs.Ytanimonhnngfkaa.Own

/- slices.ContainsFunc over may's two closures, of any array. -/
set_option linter.unusedVariables false
set_option linter.unusedSimpArgs false
namespace Go.Proofs.Ytanimonhnngfkaa.Own
open Go.RowKit

theorem aside1 {p : Prop} (h : p) : Aside p := h
theorem all_getD {α : Type} (p : α → Bool) (z : α) (l : List α) : (l.all p = true) ↔ ∀ j, j < l.length → p (l.getD j z) = true := by
  rw [List.all_eq_true]
  constructor
  · intro h j hj
    rw [List.getD_eq_getElem?_getD, List.getElem?_eq_getElem hj]
    exact h _ (List.getElem_mem hj)
  · intro h x hx
    obtain ⟨j, hj, rfl⟩ := List.mem_iff_getElem.1 hx
    have := h j hj
    rwa [List.getD_eq_getElem?_getD, List.getElem?_eq_getElem hj] at this

set_option maxRecDepth 100000 in
set_option maxHeartbeats 2000000 in
theorem idx1_any (a : Arr) (hkd : a.kd = 3 ∨ a.kd = 4 ∨ a.kd = 5) (hB1 : 0 ≤ a.Burst) (hB2 : a.Burst ≤ 9223372036854775807) (A' : Option Addr) (n' c' : Nat) (B : Option Addr) (m d : Nat) (A : Option Addr) (n c bx p : Nat) (w : World) (hR : ReadsNums w A n a.cs) (hwf : ∀ j, j < n → (a.cs.getD j zeroNum).wf)
    (hb : w.heap[bx]? = some (.cells #[.pointer (some ⟨p, 0, none⟩)] 65 (0, 0))) (hp : w.heap[p]? = some (.cells (a.vals A' n' c' B m d) 63 (0, 0))) :
    Calls Try.prog 46 #[.slice A n c, .func (.func 33) #[] #[.pointer (some ⟨bx, 0, none⟩)]] w fun e w' => (∃ r : Int, e = .returned (.int .i64 r) ∧ decide (0 ≤ r) = !a.cs.all a.okCB) ∧ Below w.heap.size w w' := by
  have hnm := hR.2.1
  have HR : Aside (ReadsNums w A n a.cs) := hR
  have HL : Aside (a.cs.length = n) := hR.1
  have HC : Aside (∀ j V, j < n → MA w bx p (a.vals A' n' c' B m d) V → Calls Try.prog 33 #[(a.cs.getD j zeroNum).v, .pointer (some ⟨bx, 0, none⟩)] V fun e w' => e = .returned (.bool (!a.okCB (a.cs.getD j zeroNum))) ∧ Below V.heap.size V w') :=
    fun j V hj hV => bad1_any _ a A' n' c' B m d bx p V (hwf j hj) hkd hB1 hB2 hV.hb hV.hp
  have HA1 : Aside ((a.cs.all a.okCB = true) ↔ ∀ j, j < n → a.okCB (a.cs.getD j zeroNum) = true) := by rw [← HL.out]; exact all_getD _ _ _
  have h0 : MA w bx p (a.vals A' n' c' B m d) w := ⟨hb, hp, Below.refl _ _⟩
  clear hR hb hp hwf hkd hB1 hB2
  go_enter Try.func46, Try.ntmps46
  go_wp2
  go_loopw [8] (fun i wr => ∃ k : Nat, k ≤ n ∧ i = .int .i64 k ∧ MA w bx p (a.vals A' n' c' B m d) wr ∧ Aside (∀ j, j < k → a.okCB (a.cs.getD j zeroNum) = true)) (fun i _ => n - (intOf i).toNat)
  case atStart => exact ⟨0, Nat.zero_le _, rfl, h0, fun j hj => by omega⟩
  case round =>
    obtain ⟨k, hk, rfl, hM, HP⟩ := hrel
    clear h0
    by_cases hlt : k < n
    · obtain ⟨b, off, hA, hbs, hcells⟩ := (HR.out.below hM.below).2.2 (by omega)
      subst hA
      obtain ⟨q0, q1, q2⟩ := hcells k hlt
      rw [← Nat.add_assoc] at q1 q2
      have HC1 := HC.out k wr hlt hM
      have HX : Aside (∀ c, a.okCB (a.cs.getD k zeroNum) = c → (c = false → a.cs.all a.okCB = false) ∧ (c = true → ∀ j, j < k + 1 → a.okCB (a.cs.getD j zeroNum) = true)) := by
        intro c hc
        refine ⟨fun h => ?_, fun h j hj => ?_⟩
        · cases hq : a.cs.all a.okCB
          · rfl
          · have := HA1.out.1 hq k hlt; rw [hc, h] at this; cases this
        · by_cases hjk : j = k
          · rw [hjk, hc, h]
          · exact HP.out j (by omega)
      generalize hob : a.okCB (a.cs.getD k zeroNum) = ob at *
      generalize a.cs.getD k zeroNum = x at *
      obtain ⟨xW, xh, xl⟩ := x
      unfold Num.v at HC1
      simp only at q0 q1 q2 HC1
      have HC2 : Aside _ := HC1
      have hk0 : (0 : Int) ≤ (k : Int) := by omega
      have hk1 : (k : Int) < (n : Int) := by omega
      clear hcells HC1 hob
      go_wp2_with fail
      refine Calls.mono HC2.out ?_
      rintro e w5 ⟨rfl, hb5⟩
      have hM5 := hM.next hb5
      have HX' := HX.out ob rfl
      clear HX
      cases ob with
      | true =>
        have HX2 := aside1 (HX'.2 rfl)
        clear HX'
        simp only [Bool.not_true]
        go_wp2
        go_roundw
        case rel => exact ⟨k + 1, by omega, by go_num, hM5, HX2⟩
        case measure => (simp [intOf]; omega)
      | false =>
        have HX2 := aside1 (HX'.1 rfl)
        clear HX'
        simp only [Bool.not_false]
        go_wp2
        go_ret
        exact ⟨⟨_, rfl, by rw [HX2.out]; simp⟩, hM5.below⟩
    · obtain rfl : k = n := by omega
      go_wp2
      go_ret
      exact ⟨⟨_, rfl, by rw [HA1.out.2 HP.out]; rfl⟩, hM.below⟩
theorem has1_any (a : Arr) (hkd : a.kd = 3 ∨ a.kd = 4 ∨ a.kd = 5) (hB1 : 0 ≤ a.Burst) (hB2 : a.Burst ≤ 9223372036854775807) (A' : Option Addr) (n' c' : Nat) (B : Option Addr) (m d : Nat) (A : Option Addr) (n c bx p : Nat) (w : World) (hR : ReadsNums w A n a.cs) (hwf : ∀ j, j < n → (a.cs.getD j zeroNum).wf)
    (hb : w.heap[bx]? = some (.cells #[.pointer (some ⟨p, 0, none⟩)] 65 (0, 0))) (hp : w.heap[p]? = some (.cells (a.vals A' n' c' B m d) 63 (0, 0))) :
    Calls Try.prog 35 #[.slice A n c, .func (.func 33) #[] #[.pointer (some ⟨bx, 0, none⟩)]] w fun e w' => e = .returned (.bool (!a.cs.all a.okCB)) ∧ Below w.heap.size w w' := by
  have HI := aside1 (idx1_any a hkd hB1 hB2 A' n' c' B m d A n c bx p w hR hwf hb hp)
  clear hb hp hR hwf
  generalize (!a.cs.all a.okCB) = q at *
  go_enter Try.func35, Try.ntmps35
  go_wp2_with fail
  refine Calls.mono HI.out ?_
  rintro e w5 ⟨⟨r, rfl, hr⟩, hb5⟩
  go_wp2
  go_ret
  exact ⟨by rw [← hr]; rfl, hb5⟩
set_option maxHeartbeats 1000000 in
theorem idx2_any (xs : List Int) (A : Option Addr) (n c : Nat) (w : World) (hR : Reads w .i64 A n xs) :
    Calls Try.prog 47 #[.slice A n c, .func (.func 34) #[] #[]] w fun e w' => (∃ r : Int, e = .returned (.int .i64 r) ∧ decide (0 ≤ r) = !xs.all (fun x => decide (0 ≤ x))) ∧ w' = w := by
  have hnm := hR.2.1
  have HR : Aside (Reads w .i64 A n xs) := hR
  have HA1 : Aside ((xs.all (fun x => decide (0 ≤ x)) = true) ↔ ∀ j, j < n → decide (0 ≤ xs.getD j 0) = true) := by rw [← hR.1]; exact all_getD _ _ _
  clear hR
  go_enter Try.func47, Try.ntmps47
  go_wp2
  go_loop [8] (fun i => ∃ k : Nat, k ≤ n ∧ i = .int .i64 k ∧ Aside (∀ j, j < k → decide (0 ≤ xs.getD j 0) = true)) (fun i => n - (intOf i).toNat)
  case atStart => exact ⟨0, Nat.zero_le _, rfl, fun j hj => by omega⟩
  case round =>
    obtain ⟨k, hk, rfl, HP⟩ := hrel
    by_cases hlt : k < n
    · obtain ⟨ad, rfl, hc⟩ := HR.out.at_ (k : Int) (by omega) (by omega)
      simp only [Int.toNat_natCast, rd] at hc
      have HX : Aside ((xs.getD k 0 < 0 → xs.all (fun x => decide (0 ≤ x)) = false) ∧ (0 ≤ xs.getD k 0 → ∀ j, j < k + 1 → decide (0 ≤ xs.getD j 0) = true)) := by
        refine ⟨fun h => ?_, fun h j hj => ?_⟩
        · cases hq : xs.all (fun x => decide (0 ≤ x))
          · rfl
          · have := of_decide_eq_true (HA1.out.1 hq k hlt); omega
        · by_cases hjk : j = k
          · rw [hjk]; exact decide_eq_true h
          · exact HP.out j (by omega)
      generalize xs.getD k 0 = x at *
      have hk0 : (0 : Int) ≤ (k : Int) := by omega
      have hk1 : (k : Int) < (n : Int) := by omega
      by_cases hx : x < 0
      · have HX2 := aside1 (HX.out.1 hx)
        clear HX
        have hd : decide (x < 0) = true := decide_eq_true hx
        go_wp2_with fail
        refine (past_any _ _).mono ?_
        rintro e w5 ⟨rfl, rfl⟩
        rw [hd]
        go_wp2
        go_ret
        exact ⟨⟨_, rfl, by rw [HX2.out]; simp⟩, rfl⟩
      · have HX2 := aside1 (HX.out.2 (by omega))
        clear HX
        have hd : decide (x < 0) = false := decide_eq_false hx
        go_wp2_with fail
        refine (past_any _ _).mono ?_
        rintro e w5 ⟨rfl, rfl⟩
        rw [hd]
        go_wp2
        go_round
        case rel => exact ⟨k + 1, by omega, by go_num, HX2⟩
        case measure => (simp [intOf]; omega)
    · obtain rfl : k = n := by omega
      go_wp2
      go_ret
      exact ⟨⟨_, rfl, by rw [HA1.out.2 HP.out]; rfl⟩, rfl⟩
theorem has2_any (xs : List Int) (A : Option Addr) (n c : Nat) (w : World) (hR : Reads w .i64 A n xs) :
    Calls Try.prog 36 #[.slice A n c, .func (.func 34) #[] #[]] w fun e w' => e = .returned (.bool (!xs.all (fun x => decide (0 ≤ x)))) ∧ w' = w := by
  have HI := aside1 (idx2_any xs A n c w hR)
  clear hR
  generalize (!xs.all (fun x => decide (0 ≤ x))) = q at *
  go_enter Try.func36, Try.ntmps36
  go_wp2_with fail
  refine Calls.mono HI.out ?_
  rintro e w5 ⟨⟨r, rfl, hr⟩, rfl⟩
  go_wp2
  go_ret
  exact ⟨by rw [← hr]; rfl, rfl⟩
end Go.Proofs.Ytanimonhnngfkaa.Own

/- may, of an array that may be. -/
set_option linter.unusedVariables false
set_option linter.unusedSimpArgs false
namespace Go.Proofs.Ytanimonhnngfkaa.Own
open Go.RowKit

set_option maxRecDepth 100000 in
set_option maxHeartbeats 4000000 in
theorem may_ok (a : Arr) (ho : a.ok) (A : Option Addr) (n c : Nat) (B : Option Addr) (m d p : Nat) (w : World) (hR : ReadsNums w A n a.cs) (hS : Reads w .i64 B m a.ls) (hp : w.heap[p]? = some (.cells (a.vals A n c B m d) 63 (0, 0))) :
    Calls Try.prog 20 #[.pointer (some ⟨p, 0, none⟩)] w fun e w' => e = .returned (.bool true) ∧ Below w.heap.size w w' := by
  have hB : Below w.heap.size w (w.alloc (.cells #[.pointer (some ⟨p, 0, none⟩)] 65)) := (Below.refl _ _).alloc (Nat.le_refl _) _
  have hp1 := (Below.heap_alloc w (.cells #[.pointer (some ⟨p, 0, none⟩)] 65) p (Array.getElem?_eq_some_iff.1 hp).1).trans hp
  have hb1 := heap_alloc_new w (.cells #[.pointer (some ⟨p, 0, none⟩)] 65)
  have hM : Aside (MA w w.heap.size p (a.vals A n c B m d) (w.alloc (.cells #[.pointer (some ⟨p, 0, none⟩)] 65))) := ⟨hb1, hp1, hB⟩
  have HH1 : Aside (∀ V, MA w w.heap.size p (a.vals A n c B m d) V → Calls Try.prog 35 #[.slice A n c, .func (.func 33) #[] #[.pointer (some ⟨w.heap.size, 0, none⟩)]] V fun e w' => e = .returned (.bool false) ∧ Below V.heap.size V w') :=
    fun V hV => has1_none a ho A n c B m d A n c w.heap.size p V (hR.below hV.below) hV.hb hV.hp
  have HH2 : Aside (∀ V, MA w w.heap.size p (a.vals A n c B m d) V → Calls Try.prog 36 #[.slice B m d, .func (.func 34) #[] #[]] V fun e w' => e = .returned (.bool false) ∧ w' = V) :=
    fun V hV => has2_none a.ls ho.last B m d V (hS.below hV.below)
  have hn1 : 1 ≤ n := by have := ho.len.1; rw [hR.1] at this; exact this
  have hn2 : n ≤ 4096 := by have := ho.len.2; rw [hR.1] at this; exact this
  have hml : a.ls.length = m := hS.1
  have hnl : a.cs.length = n := hR.1
  have hkd := ho.kd
  have hsc := ho.scal
  rw [hml, hnl] at hsc
  have hls : a.ls = [] → m = 0 := fun h => by rw [h] at hml; simpa using hml.symm
  have c1 : ∀ (V : World), MA w w.heap.size p (a.vals A n c B m d) V → (V.cell? ⟨w.heap.size, 0, none⟩ = some (.pointer (some ⟨p, 0, none⟩)) ∧ V.cell? ⟨p, 1, none⟩ = some (.int .u8 a.kd) ∧ V.cell? ⟨p, 2, none⟩ = some (.int .i64 a.W)) ∧ (V.cell? ⟨p, 3, none⟩ = some (.int .i64 a.Rate) ∧ V.cell? ⟨p, 4, none⟩ = some (.int .i64 a.Burst) ∧ V.cell? ⟨p, 5, none⟩ = some (.slice A n c) ∧ V.cell? ⟨p, 6, none⟩ = some (.slice B m d)) :=
    fun V h => ⟨⟨cellOf h.hb 0, cellOf h.hp 1, cellOf h.hp 2⟩, cellOf h.hp 3, cellOf h.hp 4, cellOf h.hp 5, cellOf h.hp 6⟩
  have HCL : Aside (∀ (V : World), MA w w.heap.size p (a.vals A n c B m d) V → (V.cell? ⟨w.heap.size, 0, none⟩ = some (.pointer (some ⟨p, 0, none⟩)) ∧ V.cell? ⟨p, 1, none⟩ = some (.int .u8 a.kd) ∧ V.cell? ⟨p, 2, none⟩ = some (.int .i64 a.W)) ∧ (V.cell? ⟨p, 3, none⟩ = some (.int .i64 a.Rate) ∧ V.cell? ⟨p, 4, none⟩ = some (.int .i64 a.Burst) ∧ V.cell? ⟨p, 5, none⟩ = some (.slice A n c) ∧ V.cell? ⟨p, 6, none⟩ = some (.slice B m d))) := c1
  obtain ⟨⟨k0, k1, k2⟩, k3, k4, k5, k6⟩ := c1 _ hM.out
  generalize a.vals A n c B m d = vals at *
  generalize a.kd = kd at *
  generalize a.W = aW at *
  generalize a.Rate = Rate at *
  generalize a.Burst = Burst at *
  generalize hlsl : a.ls = ls at *
  clear c1 hp hp1 hb1 hB hml hnl hR hS ho hlsl
  obtain ⟨sc1, sc2, sc3, sc4⟩ := hsc
  by_cases h5 : kd = 5
  · subst h5
    obtain ⟨r0, r1, b1, b2, hmn⟩ := sc4 rfl
    have hW := sc3 (by decide)
    subst hW hmn
    clear sc1 sc2 sc3 sc4 hkd hls
    by_cases hr : Rate = 0
    · subst hr
      have hb0 : (Burst == 0) = false := by simp; omega
      have e1 : decide (Burst < 1) = false := decide_eq_false (by omega)
      have e2 : decide (65535 < Burst) = false := decide_eq_false (by omega)
      go_enter Try.func20, Try.ntmps20
      go_wp2_with fail
      go_quiet (fail)
      have hMq := hM.out.next (below_drewN (Below.refl _ _) nq)
      clear k0 k1 k2 k3 k4 k5 k6
      obtain ⟨⟨k0, k1, k2⟩, k3, k4, k5, k6⟩ := HCL.out _ hMq
      go_wp2_with fail
      refine Calls.mono (HH1.out _ hMq) ?_
      rintro e w5 ⟨rfl, hb5⟩
      have hM5 := hMq.next hb5
      clear k0 k1 k2 k3 k4 k5 k6
      obtain ⟨⟨k0, k1, k2⟩, k3, k4, k5, k6⟩ := HCL.out _ hM5
      go_wp2_with fail
      refine Calls.mono (HH2.out _ hM5) ?_
      rintro e w6 ⟨rfl, rfl⟩
      go_wp2
      go_ret
      exact ⟨rfl, hM5.below⟩
    · have hr0 : (Rate == 0) = false := by simp [hr]
      have e1 : decide (Burst < 1) = false := decide_eq_false (by omega)
      have e2 : decide (65535 < Burst) = false := decide_eq_false (by omega)
      have e3 : decide (Rate < 0) = false := decide_eq_false (by omega)
      have e4 : decide (65535 < Rate) = false := decide_eq_false (by omega)
      clear hr
      go_enter Try.func20, Try.ntmps20
      go_wp2_with fail
      go_quiet (fail)
      have hMq := hM.out.next (below_drewN (Below.refl _ _) nq)
      clear k0 k1 k2 k3 k4 k5 k6
      obtain ⟨⟨k0, k1, k2⟩, k3, k4, k5, k6⟩ := HCL.out _ hMq
      go_wp2_with fail
      refine Calls.mono (HH1.out _ hMq) ?_
      rintro e w5 ⟨rfl, hb5⟩
      have hM5 := hMq.next hb5
      clear k0 k1 k2 k3 k4 k5 k6
      obtain ⟨⟨k0, k1, k2⟩, k3, k4, k5, k6⟩ := HCL.out _ hM5
      go_wp2_with fail
      refine Calls.mono (HH2.out _ hM5) ?_
      rintro e w6 ⟨rfl, rfl⟩
      go_wp2
      go_ret
      exact ⟨rfl, hM5.below⟩
  · obtain ⟨hR0, hB0, hl0⟩ := sc1 h5
    obtain rfl := hls hl0
    subst hR0 hB0
    by_cases h3 : kd = 3
    · subst h3
      obtain ⟨w1, w2⟩ := sc2 rfl
      have e1 : decide (aW < 1) = false := decide_eq_false (by omega)
      have e2 : decide (128 < aW) = false := decide_eq_false (by omega)
      clear sc1 sc2 sc3 sc4 hkd hls hl0 h5
      go_enter Try.func20, Try.ntmps20
      go_wp2_with fail
      refine Calls.mono (HH1.out _ hM.out) ?_
      rintro e w5 ⟨rfl, hb5⟩
      have hM5 := hM.out.next hb5
      obtain ⟨⟨k0, k1, k2⟩, k3, k4, k5, k6⟩ := HCL.out _ hM5
      go_wp2_with fail
      refine Calls.mono (HH2.out _ hM5) ?_
      rintro e w6 ⟨rfl, rfl⟩
      go_wp2
      go_ret
      exact ⟨rfl, hM5.below⟩
    · obtain rfl : kd = 4 := by omega
      have hW := sc3 (by decide)
      subst hW
      clear sc1 sc2 sc3 sc4 hkd hls hl0 h5 h3
      go_enter Try.func20, Try.ntmps20
      go_wp2_with fail
      refine Calls.mono (HH1.out _ hM.out) ?_
      rintro e w5 ⟨rfl, hb5⟩
      have hM5 := hM.out.next hb5
      obtain ⟨⟨k0, k1, k2⟩, k3, k4, k5, k6⟩ := HCL.out _ hM5
      go_wp2_with fail
      refine Calls.mono (HH2.out _ hM5) ?_
      rintro e w6 ⟨rfl, rfl⟩
      go_wp2
      go_ret
      exact ⟨rfl, hM5.below⟩
end Go.Proofs.Ytanimonhnngfkaa.Own

/- may, of any array. -/
set_option linter.unusedVariables false
set_option linter.unusedSimpArgs false
namespace Go.Proofs.Ytanimonhnngfkaa.Own
open Go.RowKit

/-- may an array be? -/
def Arr.scalB (a : Arr) : Bool :=
  if a.kd = 3 then decide (1 ≤ a.W ∧ a.W ≤ 128) && (decide (a.Rate = 0) && (decide (a.Burst = 0) && decide (a.ls.length = 0)))
  else if a.kd = 4 then decide (a.W = 64) && (decide (a.Rate = 0) && (decide (a.Burst = 0) && decide (a.ls.length = 0)))
  else if a.kd = 5 then decide (a.W = 64) && (decide (0 ≤ a.Rate ∧ a.Rate ≤ 65535) && (decide (1 ≤ a.Burst ∧ a.Burst ≤ 65535) && decide (a.ls.length = a.cs.length)))
  else false
def Arr.okB (a : Arr) : Bool := a.scalB && (decide (1 ≤ a.cs.length ∧ a.cs.length ≤ 4096) && (a.cs.all a.okCB && a.ls.all (fun x => decide (0 ≤ x))))
def Arr.wf (a : Arr) : Prop := ∀ j, j < a.cs.length → (a.cs.getD j zeroNum).wf
theorem Arr.ok_of (a : Arr) (hw : a.wf) (h : a.okB = true) : a.ok := by
  unfold Arr.okB at h
  simp only [Bool.and_eq_true, decide_eq_true_eq] at h
  obtain ⟨h1, h2, h3, h4⟩ := h
  have h3' := (all_getD a.okCB zeroNum a.cs).1 h3
  have h4' := (all_getD (fun x => decide (0 ≤ x)) 0 a.ls).1 h4
  have hls : a.ls.length = 0 → a.ls = [] := List.eq_nil_of_length_eq_zero
  unfold Arr.scalB at h1
  by_cases k3 : a.kd = 3
  · rw [if_pos k3] at h1
    simp only [Bool.and_eq_true, decide_eq_true_eq] at h1
    exact ⟨.inl k3, ⟨fun _ => ⟨h1.2.1, h1.2.2.1, hls h1.2.2.2⟩, fun _ => h1.1, fun h => absurd k3 h, fun h => by omega⟩, h2, fun j hj => ⟨hw j hj, (a.okCB_iff _).1 (h3' j hj)⟩, fun j hj => of_decide_eq_true (h4' j hj)⟩
  · rw [if_neg k3] at h1
    by_cases k4 : a.kd = 4
    · rw [if_pos k4] at h1
      simp only [Bool.and_eq_true, decide_eq_true_eq] at h1
      exact ⟨.inr (.inl k4), ⟨fun _ => ⟨h1.2.1, h1.2.2.1, hls h1.2.2.2⟩, fun h => absurd h k3, fun _ => h1.1, fun h => by omega⟩, h2, fun j hj => ⟨hw j hj, (a.okCB_iff _).1 (h3' j hj)⟩, fun j hj => of_decide_eq_true (h4' j hj)⟩
    · rw [if_neg k4] at h1
      by_cases k5 : a.kd = 5
      · rw [if_pos k5] at h1
        simp only [Bool.and_eq_true, decide_eq_true_eq] at h1
        exact ⟨.inr (.inr k5), ⟨fun h => absurd k5 h, fun h => absurd h k3, fun _ => h1.1, fun _ => ⟨h1.2.1.1, h1.2.1.2, h1.2.2.1.1, h1.2.2.1.2, h1.2.2.2⟩⟩, h2, fun j hj => ⟨hw j hj, (a.okCB_iff _).1 (h3' j hj)⟩, fun j hj => of_decide_eq_true (h4' j hj)⟩
      · rw [if_neg k5] at h1; cases h1
theorem Arr.ok_iff (a : Arr) (hw : a.wf) : a.okB = true ↔ a.ok := by
  refine ⟨a.ok_of hw, fun h => ?_⟩
  unfold Arr.okB
  simp only [Bool.and_eq_true, decide_eq_true_eq]
  refine ⟨?_, h.len, (all_getD a.okCB zeroNum a.cs).2 fun j hj => (a.okCB_iff _).2 (h.cells j hj).2, (all_getD (fun x => decide (0 ≤ x)) 0 a.ls).2 fun j hj => decide_eq_true (h.last j hj)⟩
  unfold Arr.scalB
  obtain ⟨s1, s2, s3, s4⟩ := h.scal
  rcases h.kd with k | k | k
  · rw [if_pos k]
    obtain ⟨a1, a2, a3⟩ := s1 (by omega)
    simp [a1, a2, a3, s2 k]
  · rw [if_neg (by omega), if_pos k]
    obtain ⟨a1, a2, a3⟩ := s1 (by omega)
    simp [a1, a2, a3, s3 (by omega)]
  · rw [if_neg (by omega), if_neg (by omega), if_pos k]
    obtain ⟨a1, a2, a3, a4, a5⟩ := s4 k
    simp [a1, a2, a3, a4, a5, s3 (by omega)]

section
variable (nm : ByteArray) (kd aW Rate Burst : Int) (A : Option Addr) (n c : Nat) (B : Option Addr) (m d p : Nat) (w : World)
def vals7 : Array Value := #[.string nm, .int .u8 kd, .int .i64 aW, .int .i64 Rate, .int .i64 Burst, .slice A n c, .slice B m d]
/-- What may reads, in a world behind w. -/
def MayAt (V : World) : Prop := (V.cell? ⟨w.heap.size, 0, none⟩ = some (.pointer (some ⟨p, 0, none⟩)) ∧ V.cell? ⟨p, 1, none⟩ = some (.int .u8 kd) ∧ V.cell? ⟨p, 2, none⟩ = some (.int .i64 aW)) ∧ (V.cell? ⟨p, 3, none⟩ = some (.int .i64 Rate) ∧ V.cell? ⟨p, 4, none⟩ = some (.int .i64 Burst) ∧ V.cell? ⟨p, 5, none⟩ = some (.slice A n c) ∧ V.cell? ⟨p, 6, none⟩ = some (.slice B m d))
end
theorem MA.at_ {w V : World} {p : Nat} {nm : ByteArray} {kd aW Rate Burst : Int} {A : Option Addr} {n c : Nat} {B : Option Addr} {m d : Nat} (h : MA w w.heap.size p (vals7 nm kd aW Rate Burst A n c B m d) V) : MayAt kd aW Rate Burst A n c B m d p w V :=
  ⟨⟨cellOf h.hb 0, cellOf h.hp 1, cellOf h.hp 2⟩, cellOf h.hp 3, cellOf h.hp 4, cellOf h.hp 5, cellOf h.hp 6⟩
theorem may_start {w : World} {p : Nat} {vals : Array Value} (hp : w.heap[p]? = some (.cells vals 63 (0, 0))) : MA w w.heap.size p vals (w.alloc (.cells #[.pointer (some ⟨p, 0, none⟩)] 65)) :=
  ⟨heap_alloc_new w _, (Below.heap_alloc w (.cells #[.pointer (some ⟨p, 0, none⟩)] 65) p (Array.getElem?_eq_some_iff.1 hp).1).trans hp, (Below.refl _ _).alloc (Nat.le_refl _) _⟩

set_option maxRecDepth 100000 in
set_option maxHeartbeats 4000000 in
theorem may3lo_r (nm : ByteArray) (aW Rate Burst dum : Int) (A : Option Addr) (n c : Nat) (B : Option Addr) (m d p : Nat) (w : World) (hr : ¬ Rate = 0) (h1 : aW < 1) (hnn : n ≤ 9223372036854775807) (hmm : m ≤ 9223372036854775807) (hp : w.heap[p]? = some (.cells (vals7 nm 3 aW Rate Burst A n c B m d) 63 (0, 0))) :
    Calls Try.prog 20 #[.pointer (some ⟨p, 0, none⟩)] w fun e w' => e = .returned (.bool false) ∧ Below w.heap.size w w' := by
  have hM := aside1 (may_start hp)
  obtain ⟨⟨k0, k1, k2⟩, k3, k4, k5, k6⟩ := hM.out.at_
  clear hp
  have hrb : (Rate == 0) = false := by simp [hr]
  have e1 : decide (aW < 1) = true := decide_eq_true h1
  go_enter Try.func20, Try.ntmps20
  go_wp2_with fail
  go_ret
  exact ⟨rfl, hM.out.below⟩

set_option maxRecDepth 100000 in
set_option maxHeartbeats 4000000 in
theorem may3hi_r (nm : ByteArray) (aW Rate Burst dum : Int) (A : Option Addr) (n c : Nat) (B : Option Addr) (m d p : Nat) (w : World) (hr : ¬ Rate = 0) (h1 : ¬ aW < 1) (h2 : 128 < aW) (hnn : n ≤ 9223372036854775807) (hmm : m ≤ 9223372036854775807) (hp : w.heap[p]? = some (.cells (vals7 nm 3 aW Rate Burst A n c B m d) 63 (0, 0))) :
    Calls Try.prog 20 #[.pointer (some ⟨p, 0, none⟩)] w fun e w' => e = .returned (.bool false) ∧ Below w.heap.size w w' := by
  have hM := aside1 (may_start hp)
  obtain ⟨⟨k0, k1, k2⟩, k3, k4, k5, k6⟩ := hM.out.at_
  clear hp
  have hrb : (Rate == 0) = false := by simp [hr]
  have e1 : decide (aW < 1) = false := decide_eq_false h1
  have e2 : decide (128 < aW) = true := decide_eq_true h2
  go_enter Try.func20, Try.ntmps20
  go_wp2_with fail
  go_ret
  exact ⟨rfl, hM.out.below⟩

set_option maxRecDepth 100000 in
set_option maxHeartbeats 4000000 in
theorem may3no_r (nm : ByteArray) (aW Rate Burst dum : Int) (A : Option Addr) (n c : Nat) (B : Option Addr) (m d p : Nat) (w : World) (hr : ¬ Rate = 0) (h1 : ¬ aW < 1) (h2 : ¬ 128 < aW) (hnn : n ≤ 9223372036854775807) (hmm : m ≤ 9223372036854775807) (hp : w.heap[p]? = some (.cells (vals7 nm 3 aW Rate Burst A n c B m d) 63 (0, 0))) :
    Calls Try.prog 20 #[.pointer (some ⟨p, 0, none⟩)] w fun e w' => e = .returned (.bool false) ∧ Below w.heap.size w w' := by
  have hM := aside1 (may_start hp)
  obtain ⟨⟨k0, k1, k2⟩, k3, k4, k5, k6⟩ := hM.out.at_
  clear hp
  have hrb : (Rate == 0) = false := by simp [hr]
  have e1 : decide (aW < 1) = false := decide_eq_false h1
  have e2 : decide (128 < aW) = false := decide_eq_false h2
  go_enter Try.func20, Try.ntmps20
  go_wp2_with fail
  go_ret
  exact ⟨rfl, hM.out.below⟩

set_option maxRecDepth 100000 in
set_option maxHeartbeats 4000000 in
theorem may4w_r (nm : ByteArray) (aW Rate Burst dum : Int) (A : Option Addr) (n c : Nat) (B : Option Addr) (m d p : Nat) (w : World) (hr : ¬ Rate = 0) (h1 : ¬ aW = 64) (hnn : n ≤ 9223372036854775807) (hmm : m ≤ 9223372036854775807) (hp : w.heap[p]? = some (.cells (vals7 nm 4 aW Rate Burst A n c B m d) 63 (0, 0))) :
    Calls Try.prog 20 #[.pointer (some ⟨p, 0, none⟩)] w fun e w' => e = .returned (.bool false) ∧ Below w.heap.size w w' := by
  have hM := aside1 (may_start hp)
  obtain ⟨⟨k0, k1, k2⟩, k3, k4, k5, k6⟩ := hM.out.at_
  clear hp
  have hrb : (Rate == 0) = false := by simp [hr]
  have e1 : (aW != 64) = true := by simp [h1]
  go_enter Try.func20, Try.ntmps20
  go_wp2_with fail
  go_ret
  exact ⟨rfl, hM.out.below⟩

set_option maxRecDepth 100000 in
set_option maxHeartbeats 4000000 in
theorem may4no_r (nm : ByteArray) (Rate Burst dum : Int) (A : Option Addr) (n c : Nat) (B : Option Addr) (m d p : Nat) (w : World) (hr : ¬ Rate = 0) (hnn : n ≤ 9223372036854775807) (hmm : m ≤ 9223372036854775807) (hp : w.heap[p]? = some (.cells (vals7 nm 4 64 Rate Burst A n c B m d) 63 (0, 0))) :
    Calls Try.prog 20 #[.pointer (some ⟨p, 0, none⟩)] w fun e w' => e = .returned (.bool false) ∧ Below w.heap.size w w' := by
  have hM := aside1 (may_start hp)
  obtain ⟨⟨k0, k1, k2⟩, k3, k4, k5, k6⟩ := hM.out.at_
  clear hp
  have hrb : (Rate == 0) = false := by simp [hr]
  go_enter Try.func20, Try.ntmps20
  go_wp2_with fail
  go_ret
  exact ⟨rfl, hM.out.below⟩

set_option maxRecDepth 100000 in
set_option maxHeartbeats 4000000 in
theorem mayx_r (nm : ByteArray) (kd aW Rate Burst dum : Int) (A : Option Addr) (n c : Nat) (B : Option Addr) (m d p : Nat) (w : World) (hr : ¬ Rate = 0) (h3 : ¬ kd = 3) (h4 : ¬ kd = 4) (h5 : ¬ kd = 5) (hnn : n ≤ 9223372036854775807) (hmm : m ≤ 9223372036854775807) (hp : w.heap[p]? = some (.cells (vals7 nm kd aW Rate Burst A n c B m d) 63 (0, 0))) :
    Calls Try.prog 20 #[.pointer (some ⟨p, 0, none⟩)] w fun e w' => e = .returned (.bool false) ∧ Below w.heap.size w w' := by
  have hM := aside1 (may_start hp)
  obtain ⟨⟨k0, k1, k2⟩, k3, k4, k5, k6⟩ := hM.out.at_
  clear hp
  have hrb : (Rate == 0) = false := by simp [hr]
  have e3 : (kd == 3) = false := by simp [h3]
  have e4 : (kd == 4) = false := by simp [h4]
  have e5 : (kd == 5) = false := by simp [h5]
  go_enter Try.func20, Try.ntmps20
  go_wp2_with fail
  go_ret
  exact ⟨rfl, hM.out.below⟩

set_option maxRecDepth 100000 in
set_option maxHeartbeats 4000000 in
theorem may3lo_b (nm : ByteArray) (aW Burst dum : Int) (A : Option Addr) (n c : Nat) (B : Option Addr) (m d p : Nat) (w : World) (hb : ¬ Burst = 0) (h1 : aW < 1) (hnn : n ≤ 9223372036854775807) (hmm : m ≤ 9223372036854775807) (hp : w.heap[p]? = some (.cells (vals7 nm 3 aW 0 Burst A n c B m d) 63 (0, 0))) :
    Calls Try.prog 20 #[.pointer (some ⟨p, 0, none⟩)] w fun e w' => e = .returned (.bool false) ∧ Below w.heap.size w w' := by
  have hM := aside1 (may_start hp)
  obtain ⟨⟨k0, k1, k2⟩, k3, k4, k5, k6⟩ := hM.out.at_
  clear hp
  have hbb : (Burst == 0) = false := by simp [hb]
  have e1 : decide (aW < 1) = true := decide_eq_true h1
  go_enter Try.func20, Try.ntmps20
  go_wp2_with fail
  go_ret
  exact ⟨rfl, hM.out.below⟩

set_option maxRecDepth 100000 in
set_option maxHeartbeats 4000000 in
theorem may3hi_b (nm : ByteArray) (aW Burst dum : Int) (A : Option Addr) (n c : Nat) (B : Option Addr) (m d p : Nat) (w : World) (hb : ¬ Burst = 0) (h1 : ¬ aW < 1) (h2 : 128 < aW) (hnn : n ≤ 9223372036854775807) (hmm : m ≤ 9223372036854775807) (hp : w.heap[p]? = some (.cells (vals7 nm 3 aW 0 Burst A n c B m d) 63 (0, 0))) :
    Calls Try.prog 20 #[.pointer (some ⟨p, 0, none⟩)] w fun e w' => e = .returned (.bool false) ∧ Below w.heap.size w w' := by
  have hM := aside1 (may_start hp)
  obtain ⟨⟨k0, k1, k2⟩, k3, k4, k5, k6⟩ := hM.out.at_
  clear hp
  have hbb : (Burst == 0) = false := by simp [hb]
  have e1 : decide (aW < 1) = false := decide_eq_false h1
  have e2 : decide (128 < aW) = true := decide_eq_true h2
  go_enter Try.func20, Try.ntmps20
  go_wp2_with fail
  go_ret
  exact ⟨rfl, hM.out.below⟩

set_option maxRecDepth 100000 in
set_option maxHeartbeats 4000000 in
theorem may3no_b (nm : ByteArray) (aW Burst dum : Int) (A : Option Addr) (n c : Nat) (B : Option Addr) (m d p : Nat) (w : World) (hb : ¬ Burst = 0) (h1 : ¬ aW < 1) (h2 : ¬ 128 < aW) (hnn : n ≤ 9223372036854775807) (hmm : m ≤ 9223372036854775807) (hp : w.heap[p]? = some (.cells (vals7 nm 3 aW 0 Burst A n c B m d) 63 (0, 0))) :
    Calls Try.prog 20 #[.pointer (some ⟨p, 0, none⟩)] w fun e w' => e = .returned (.bool false) ∧ Below w.heap.size w w' := by
  have hM := aside1 (may_start hp)
  obtain ⟨⟨k0, k1, k2⟩, k3, k4, k5, k6⟩ := hM.out.at_
  clear hp
  have hbb : (Burst == 0) = false := by simp [hb]
  have e1 : decide (aW < 1) = false := decide_eq_false h1
  have e2 : decide (128 < aW) = false := decide_eq_false h2
  go_enter Try.func20, Try.ntmps20
  go_wp2_with fail
  go_ret
  exact ⟨rfl, hM.out.below⟩

set_option maxRecDepth 100000 in
set_option maxHeartbeats 4000000 in
theorem may4w_b (nm : ByteArray) (aW Burst dum : Int) (A : Option Addr) (n c : Nat) (B : Option Addr) (m d p : Nat) (w : World) (hb : ¬ Burst = 0) (h1 : ¬ aW = 64) (hnn : n ≤ 9223372036854775807) (hmm : m ≤ 9223372036854775807) (hp : w.heap[p]? = some (.cells (vals7 nm 4 aW 0 Burst A n c B m d) 63 (0, 0))) :
    Calls Try.prog 20 #[.pointer (some ⟨p, 0, none⟩)] w fun e w' => e = .returned (.bool false) ∧ Below w.heap.size w w' := by
  have hM := aside1 (may_start hp)
  obtain ⟨⟨k0, k1, k2⟩, k3, k4, k5, k6⟩ := hM.out.at_
  clear hp
  have hbb : (Burst == 0) = false := by simp [hb]
  have e1 : (aW != 64) = true := by simp [h1]
  go_enter Try.func20, Try.ntmps20
  go_wp2_with fail
  go_ret
  exact ⟨rfl, hM.out.below⟩

set_option maxRecDepth 100000 in
set_option maxHeartbeats 4000000 in
theorem may4no_b (nm : ByteArray) (Burst dum : Int) (A : Option Addr) (n c : Nat) (B : Option Addr) (m d p : Nat) (w : World) (hb : ¬ Burst = 0) (hnn : n ≤ 9223372036854775807) (hmm : m ≤ 9223372036854775807) (hp : w.heap[p]? = some (.cells (vals7 nm 4 64 0 Burst A n c B m d) 63 (0, 0))) :
    Calls Try.prog 20 #[.pointer (some ⟨p, 0, none⟩)] w fun e w' => e = .returned (.bool false) ∧ Below w.heap.size w w' := by
  have hM := aside1 (may_start hp)
  obtain ⟨⟨k0, k1, k2⟩, k3, k4, k5, k6⟩ := hM.out.at_
  clear hp
  have hbb : (Burst == 0) = false := by simp [hb]
  go_enter Try.func20, Try.ntmps20
  go_wp2_with fail
  go_ret
  exact ⟨rfl, hM.out.below⟩

set_option maxRecDepth 100000 in
set_option maxHeartbeats 4000000 in
theorem mayx_b (nm : ByteArray) (kd aW Burst dum : Int) (A : Option Addr) (n c : Nat) (B : Option Addr) (m d p : Nat) (w : World) (hb : ¬ Burst = 0) (h3 : ¬ kd = 3) (h4 : ¬ kd = 4) (h5 : ¬ kd = 5) (hnn : n ≤ 9223372036854775807) (hmm : m ≤ 9223372036854775807) (hp : w.heap[p]? = some (.cells (vals7 nm kd aW 0 Burst A n c B m d) 63 (0, 0))) :
    Calls Try.prog 20 #[.pointer (some ⟨p, 0, none⟩)] w fun e w' => e = .returned (.bool false) ∧ Below w.heap.size w w' := by
  have hM := aside1 (may_start hp)
  obtain ⟨⟨k0, k1, k2⟩, k3, k4, k5, k6⟩ := hM.out.at_
  clear hp
  have hbb : (Burst == 0) = false := by simp [hb]
  have e3 : (kd == 3) = false := by simp [h3]
  have e4 : (kd == 4) = false := by simp [h4]
  have e5 : (kd == 5) = false := by simp [h5]
  go_enter Try.func20, Try.ntmps20
  go_wp2_with fail
  go_ret
  exact ⟨rfl, hM.out.below⟩

set_option maxRecDepth 100000 in
set_option maxHeartbeats 4000000 in
theorem may3lo_l (nm : ByteArray) (aW dum : Int) (A : Option Addr) (n c : Nat) (B : Option Addr) (m d p : Nat) (w : World) (hl : ¬ m = 0) (h1 : aW < 1) (hnn : n ≤ 9223372036854775807) (hmm : m ≤ 9223372036854775807) (hp : w.heap[p]? = some (.cells (vals7 nm 3 aW 0 0 A n c B m d) 63 (0, 0))) :
    Calls Try.prog 20 #[.pointer (some ⟨p, 0, none⟩)] w fun e w' => e = .returned (.bool false) ∧ Below w.heap.size w w' := by
  have hM := aside1 (may_start hp)
  obtain ⟨⟨k0, k1, k2⟩, k3, k4, k5, k6⟩ := hM.out.at_
  clear hp
  have hlb : ((m : Int) == 0) = false := by simp [hl]
  have e1 : decide (aW < 1) = true := decide_eq_true h1
  go_enter Try.func20, Try.ntmps20
  go_wp2_with fail
  go_ret
  exact ⟨rfl, hM.out.below⟩

set_option maxRecDepth 100000 in
set_option maxHeartbeats 4000000 in
theorem may3hi_l (nm : ByteArray) (aW dum : Int) (A : Option Addr) (n c : Nat) (B : Option Addr) (m d p : Nat) (w : World) (hl : ¬ m = 0) (h1 : ¬ aW < 1) (h2 : 128 < aW) (hnn : n ≤ 9223372036854775807) (hmm : m ≤ 9223372036854775807) (hp : w.heap[p]? = some (.cells (vals7 nm 3 aW 0 0 A n c B m d) 63 (0, 0))) :
    Calls Try.prog 20 #[.pointer (some ⟨p, 0, none⟩)] w fun e w' => e = .returned (.bool false) ∧ Below w.heap.size w w' := by
  have hM := aside1 (may_start hp)
  obtain ⟨⟨k0, k1, k2⟩, k3, k4, k5, k6⟩ := hM.out.at_
  clear hp
  have hlb : ((m : Int) == 0) = false := by simp [hl]
  have e1 : decide (aW < 1) = false := decide_eq_false h1
  have e2 : decide (128 < aW) = true := decide_eq_true h2
  go_enter Try.func20, Try.ntmps20
  go_wp2_with fail
  go_ret
  exact ⟨rfl, hM.out.below⟩

set_option maxRecDepth 100000 in
set_option maxHeartbeats 4000000 in
theorem may3no_l (nm : ByteArray) (aW dum : Int) (A : Option Addr) (n c : Nat) (B : Option Addr) (m d p : Nat) (w : World) (hl : ¬ m = 0) (h1 : ¬ aW < 1) (h2 : ¬ 128 < aW) (hnn : n ≤ 9223372036854775807) (hmm : m ≤ 9223372036854775807) (hp : w.heap[p]? = some (.cells (vals7 nm 3 aW 0 0 A n c B m d) 63 (0, 0))) :
    Calls Try.prog 20 #[.pointer (some ⟨p, 0, none⟩)] w fun e w' => e = .returned (.bool false) ∧ Below w.heap.size w w' := by
  have hM := aside1 (may_start hp)
  obtain ⟨⟨k0, k1, k2⟩, k3, k4, k5, k6⟩ := hM.out.at_
  clear hp
  have hlb : ((m : Int) == 0) = false := by simp [hl]
  have e1 : decide (aW < 1) = false := decide_eq_false h1
  have e2 : decide (128 < aW) = false := decide_eq_false h2
  go_enter Try.func20, Try.ntmps20
  go_wp2_with fail
  go_ret
  exact ⟨rfl, hM.out.below⟩

set_option maxRecDepth 100000 in
set_option maxHeartbeats 4000000 in
theorem may4w_l (nm : ByteArray) (aW dum : Int) (A : Option Addr) (n c : Nat) (B : Option Addr) (m d p : Nat) (w : World) (hl : ¬ m = 0) (h1 : ¬ aW = 64) (hnn : n ≤ 9223372036854775807) (hmm : m ≤ 9223372036854775807) (hp : w.heap[p]? = some (.cells (vals7 nm 4 aW 0 0 A n c B m d) 63 (0, 0))) :
    Calls Try.prog 20 #[.pointer (some ⟨p, 0, none⟩)] w fun e w' => e = .returned (.bool false) ∧ Below w.heap.size w w' := by
  have hM := aside1 (may_start hp)
  obtain ⟨⟨k0, k1, k2⟩, k3, k4, k5, k6⟩ := hM.out.at_
  clear hp
  have hlb : ((m : Int) == 0) = false := by simp [hl]
  have e1 : (aW != 64) = true := by simp [h1]
  go_enter Try.func20, Try.ntmps20
  go_wp2_with fail
  go_ret
  exact ⟨rfl, hM.out.below⟩

set_option maxRecDepth 100000 in
set_option maxHeartbeats 4000000 in
theorem may4no_l (nm : ByteArray) (dum : Int) (A : Option Addr) (n c : Nat) (B : Option Addr) (m d p : Nat) (w : World) (hl : ¬ m = 0) (hnn : n ≤ 9223372036854775807) (hmm : m ≤ 9223372036854775807) (hp : w.heap[p]? = some (.cells (vals7 nm 4 64 0 0 A n c B m d) 63 (0, 0))) :
    Calls Try.prog 20 #[.pointer (some ⟨p, 0, none⟩)] w fun e w' => e = .returned (.bool false) ∧ Below w.heap.size w w' := by
  have hM := aside1 (may_start hp)
  obtain ⟨⟨k0, k1, k2⟩, k3, k4, k5, k6⟩ := hM.out.at_
  clear hp
  have hlb : ((m : Int) == 0) = false := by simp [hl]
  go_enter Try.func20, Try.ntmps20
  go_wp2_with fail
  go_ret
  exact ⟨rfl, hM.out.below⟩

set_option maxRecDepth 100000 in
set_option maxHeartbeats 4000000 in
theorem mayx_l (nm : ByteArray) (kd aW dum : Int) (A : Option Addr) (n c : Nat) (B : Option Addr) (m d p : Nat) (w : World) (hl : ¬ m = 0) (h3 : ¬ kd = 3) (h4 : ¬ kd = 4) (h5 : ¬ kd = 5) (hnn : n ≤ 9223372036854775807) (hmm : m ≤ 9223372036854775807) (hp : w.heap[p]? = some (.cells (vals7 nm kd aW 0 0 A n c B m d) 63 (0, 0))) :
    Calls Try.prog 20 #[.pointer (some ⟨p, 0, none⟩)] w fun e w' => e = .returned (.bool false) ∧ Below w.heap.size w w' := by
  have hM := aside1 (may_start hp)
  obtain ⟨⟨k0, k1, k2⟩, k3, k4, k5, k6⟩ := hM.out.at_
  clear hp
  have hlb : ((m : Int) == 0) = false := by simp [hl]
  have e3 : (kd == 3) = false := by simp [h3]
  have e4 : (kd == 4) = false := by simp [h4]
  have e5 : (kd == 5) = false := by simp [h5]
  go_enter Try.func20, Try.ntmps20
  go_wp2_with fail
  go_ret
  exact ⟨rfl, hM.out.below⟩

set_option maxRecDepth 100000 in
set_option maxHeartbeats 4000000 in
theorem may3lo_o (nm : ByteArray) (aW dum : Int) (A : Option Addr) (n c : Nat) (B : Option Addr) (m d p : Nat) (w : World) (h1 : aW < 1) (hnn : n ≤ 9223372036854775807) (hp : w.heap[p]? = some (.cells (vals7 nm 3 aW 0 0 A n c B 0 d) 63 (0, 0))) :
    Calls Try.prog 20 #[.pointer (some ⟨p, 0, none⟩)] w fun e w' => e = .returned (.bool false) ∧ Below w.heap.size w w' := by
  have hM := aside1 (may_start hp)
  obtain ⟨⟨k0, k1, k2⟩, k3, k4, k5, k6⟩ := hM.out.at_
  clear hp
  have e1 : decide (aW < 1) = true := decide_eq_true h1
  go_enter Try.func20, Try.ntmps20
  go_wp2_with fail
  go_ret
  exact ⟨rfl, hM.out.below⟩

set_option maxRecDepth 100000 in
set_option maxHeartbeats 4000000 in
theorem may3hi_o (nm : ByteArray) (aW dum : Int) (A : Option Addr) (n c : Nat) (B : Option Addr) (m d p : Nat) (w : World) (h1 : ¬ aW < 1) (h2 : 128 < aW) (hnn : n ≤ 9223372036854775807) (hp : w.heap[p]? = some (.cells (vals7 nm 3 aW 0 0 A n c B 0 d) 63 (0, 0))) :
    Calls Try.prog 20 #[.pointer (some ⟨p, 0, none⟩)] w fun e w' => e = .returned (.bool false) ∧ Below w.heap.size w w' := by
  have hM := aside1 (may_start hp)
  obtain ⟨⟨k0, k1, k2⟩, k3, k4, k5, k6⟩ := hM.out.at_
  clear hp
  have e1 : decide (aW < 1) = false := decide_eq_false h1
  have e2 : decide (128 < aW) = true := decide_eq_true h2
  go_enter Try.func20, Try.ntmps20
  go_wp2_with fail
  go_ret
  exact ⟨rfl, hM.out.below⟩

set_option maxRecDepth 100000 in
set_option maxHeartbeats 4000000 in
theorem may4w_o (nm : ByteArray) (aW dum : Int) (A : Option Addr) (n c : Nat) (B : Option Addr) (m d p : Nat) (w : World) (h1 : ¬ aW = 64) (hnn : n ≤ 9223372036854775807) (hp : w.heap[p]? = some (.cells (vals7 nm 4 aW 0 0 A n c B 0 d) 63 (0, 0))) :
    Calls Try.prog 20 #[.pointer (some ⟨p, 0, none⟩)] w fun e w' => e = .returned (.bool false) ∧ Below w.heap.size w w' := by
  have hM := aside1 (may_start hp)
  obtain ⟨⟨k0, k1, k2⟩, k3, k4, k5, k6⟩ := hM.out.at_
  clear hp
  have e1 : (aW != 64) = true := by simp [h1]
  go_enter Try.func20, Try.ntmps20
  go_wp2_with fail
  go_ret
  exact ⟨rfl, hM.out.below⟩

set_option maxRecDepth 100000 in
set_option maxHeartbeats 4000000 in
theorem mayx_o (nm : ByteArray) (kd aW dum : Int) (A : Option Addr) (n c : Nat) (B : Option Addr) (m d p : Nat) (w : World) (h3 : ¬ kd = 3) (h4 : ¬ kd = 4) (h5 : ¬ kd = 5) (hnn : n ≤ 9223372036854775807) (hp : w.heap[p]? = some (.cells (vals7 nm kd aW 0 0 A n c B 0 d) 63 (0, 0))) :
    Calls Try.prog 20 #[.pointer (some ⟨p, 0, none⟩)] w fun e w' => e = .returned (.bool false) ∧ Below w.heap.size w w' := by
  have hM := aside1 (may_start hp)
  obtain ⟨⟨k0, k1, k2⟩, k3, k4, k5, k6⟩ := hM.out.at_
  clear hp
  have e3 : (kd == 3) = false := by simp [h3]
  have e4 : (kd == 4) = false := by simp [h4]
  have e5 : (kd == 5) = false := by simp [h5]
  go_enter Try.func20, Try.ntmps20
  go_wp2_with fail
  go_ret
  exact ⟨rfl, hM.out.below⟩
end Go.Proofs.Ytanimonhnngfkaa.Own

/- may, of any array of kind 5; and what stands behind the kinds. -/
set_option linter.unusedVariables false
set_option linter.unusedSimpArgs false
namespace Go.Proofs.Ytanimonhnngfkaa.Own
open Go.RowKit

set_option maxRecDepth 100000 in
set_option maxHeartbeats 4000000 in
theorem may5w_r (nm : ByteArray) (Rate Burst aW dum : Int) (A : Option Addr) (n c : Nat) (B : Option Addr) (m d p : Nat) (w : World) (hr : ¬ Rate = 0) (h1 : ¬ aW = 64) (hmm : m ≤ 9223372036854775807) (hnn : n ≤ 9223372036854775807) (hp : w.heap[p]? = some (.cells (vals7 nm 5 aW Rate Burst A n c B m d) 63 (0, 0))) :
    Calls Try.prog 20 #[.pointer (some ⟨p, 0, none⟩)] w fun e w' => e = .returned (.bool false) ∧ Below w.heap.size w w' := by
  have hM := aside1 (may_start hp)
  obtain ⟨⟨k0, k1, k2⟩, k3, k4, k5, k6⟩ := hM.out.at_
  clear hp
  have hrb : (Rate == 0) = false := by simp [hr]
  have e1 : (aW != 64) = true := by simp [h1]
  go_enter Try.func20, Try.ntmps20
  go_wp2_with fail
  go_quiet (fail)
  have hMq := hM.out.next (below_drewN (Below.refl _ _) nq)
  go_wp2
  go_ret
  exact ⟨rfl, hMq.below⟩
set_option maxRecDepth 100000 in
set_option maxHeartbeats 4000000 in
theorem may5w_o (nm : ByteArray) (aW dum : Int) (A : Option Addr) (n c : Nat) (B : Option Addr) (m d p : Nat) (w : World) (h1 : ¬ aW = 64) (hmm : m ≤ 9223372036854775807) (hnn : n ≤ 9223372036854775807) (hp : w.heap[p]? = some (.cells (vals7 nm 5 aW 0 0 A n c B 0 d) 63 (0, 0))) :
    Calls Try.prog 20 #[.pointer (some ⟨p, 0, none⟩)] w fun e w' => e = .returned (.bool false) ∧ Below w.heap.size w w' := by
  have hM := aside1 (may_start hp)
  obtain ⟨⟨k0, k1, k2⟩, k3, k4, k5, k6⟩ := hM.out.at_
  clear hp
  have e1 : (aW != 64) = true := by simp [h1]
  go_enter Try.func20, Try.ntmps20
  go_wp2_with fail
  go_quiet (fail)
  have hMq := hM.out.next (below_drewN (Below.refl _ _) nq)
  go_wp2
  go_ret
  exact ⟨rfl, hMq.below⟩
set_option maxRecDepth 100000 in
set_option maxHeartbeats 4000000 in
theorem may5bl_r (nm : ByteArray) (Rate Burst dum : Int) (A : Option Addr) (n c : Nat) (B : Option Addr) (m d p : Nat) (w : World) (hr : ¬ Rate = 0) (hq : 0 ≤ Rate ∧ Rate ≤ 65535) (h1 : Burst < 1) (hmm : m ≤ 9223372036854775807) (hnn : n ≤ 9223372036854775807) (hp : w.heap[p]? = some (.cells (vals7 nm 5 64 Rate Burst A n c B m d) 63 (0, 0))) :
    Calls Try.prog 20 #[.pointer (some ⟨p, 0, none⟩)] w fun e w' => e = .returned (.bool false) ∧ Below w.heap.size w w' := by
  have hM := aside1 (may_start hp)
  obtain ⟨⟨k0, k1, k2⟩, k3, k4, k5, k6⟩ := hM.out.at_
  clear hp
  have hrb : (Rate == 0) = false := by simp [hr]
  have r1 : decide (Rate < 0) = false := decide_eq_false (by omega)
  have r2 : decide (65535 < Rate) = false := decide_eq_false (by omega)
  have b1 : decide (Burst < 1) = true := decide_eq_true h1
  go_enter Try.func20, Try.ntmps20
  go_wp2_with fail
  go_quiet (fail)
  have hMq := hM.out.next (below_drewN (Below.refl _ _) nq)
  go_wp2
  go_ret
  exact ⟨rfl, hMq.below⟩
set_option maxRecDepth 100000 in
set_option maxHeartbeats 4000000 in
theorem may5bl_b (nm : ByteArray) (Burst dum : Int) (A : Option Addr) (n c : Nat) (B : Option Addr) (m d p : Nat) (w : World) (hb : ¬ Burst = 0) (h1 : Burst < 1) (hmm : m ≤ 9223372036854775807) (hnn : n ≤ 9223372036854775807) (hp : w.heap[p]? = some (.cells (vals7 nm 5 64 0 Burst A n c B m d) 63 (0, 0))) :
    Calls Try.prog 20 #[.pointer (some ⟨p, 0, none⟩)] w fun e w' => e = .returned (.bool false) ∧ Below w.heap.size w w' := by
  have hM := aside1 (may_start hp)
  obtain ⟨⟨k0, k1, k2⟩, k3, k4, k5, k6⟩ := hM.out.at_
  clear hp
  have hbb : (Burst == 0) = false := by simp [hb]
  have b1 : decide (Burst < 1) = true := decide_eq_true h1
  go_enter Try.func20, Try.ntmps20
  go_wp2_with fail
  go_quiet (fail)
  have hMq := hM.out.next (below_drewN (Below.refl _ _) nq)
  go_wp2
  go_ret
  exact ⟨rfl, hMq.below⟩
set_option maxRecDepth 100000 in
set_option maxHeartbeats 4000000 in
theorem may5bl_l (nm : ByteArray) (dum : Int) (A : Option Addr) (n c : Nat) (B : Option Addr) (m d p : Nat) (w : World) (hl : ¬ m = 0) (hmm : m ≤ 9223372036854775807) (hnn : n ≤ 9223372036854775807) (hp : w.heap[p]? = some (.cells (vals7 nm 5 64 0 0 A n c B m d) 63 (0, 0))) :
    Calls Try.prog 20 #[.pointer (some ⟨p, 0, none⟩)] w fun e w' => e = .returned (.bool false) ∧ Below w.heap.size w w' := by
  have hM := aside1 (may_start hp)
  obtain ⟨⟨k0, k1, k2⟩, k3, k4, k5, k6⟩ := hM.out.at_
  clear hp
  have hlb : ((m : Int) == 0) = false := by simp [hl]
  go_enter Try.func20, Try.ntmps20
  go_wp2_with fail
  go_quiet (fail)
  have hMq := hM.out.next (below_drewN (Below.refl _ _) nq)
  go_wp2
  go_ret
  exact ⟨rfl, hMq.below⟩
set_option maxRecDepth 100000 in
set_option maxHeartbeats 4000000 in
theorem may4n0 (nm : ByteArray) (dum : Int) (A : Option Addr) (n c : Nat) (B : Option Addr) (m d p : Nat) (w : World) (hmm : m ≤ 9223372036854775807) (hnn : n ≤ 9223372036854775807) (hn : n < 1) (hp : w.heap[p]? = some (.cells (vals7 nm 4 64 0 0 A n c B 0 d) 63 (0, 0))) :
    Calls Try.prog 20 #[.pointer (some ⟨p, 0, none⟩)] w fun e w' => e = .returned (.bool false) ∧ Below w.heap.size w w' := by
  have hM := aside1 (may_start hp)
  obtain ⟨⟨k0, k1, k2⟩, k3, k4, k5, k6⟩ := hM.out.at_
  clear hp
  have n1 : decide ((1 : Int) ≤ (n : Int)) = false := decide_eq_false (by omega)
  obtain rfl : n = 0 := by omega
  go_enter Try.func20, Try.ntmps20
  go_wp2_with fail
  have hMq := hM.out
  go_ret
  exact ⟨rfl, hMq.below⟩
set_option maxRecDepth 100000 in
set_option maxHeartbeats 4000000 in
theorem may3nh (nm : ByteArray) (aW dum : Int) (A : Option Addr) (n c : Nat) (B : Option Addr) (m d p : Nat) (w : World) (h1 : 1 ≤ aW ∧ aW ≤ 128) (hmm : m ≤ 9223372036854775807) (hnn : n ≤ 9223372036854775807) (hn : 4096 < n) (hp : w.heap[p]? = some (.cells (vals7 nm 3 aW 0 0 A n c B 0 d) 63 (0, 0))) :
    Calls Try.prog 20 #[.pointer (some ⟨p, 0, none⟩)] w fun e w' => e = .returned (.bool false) ∧ Below w.heap.size w w' := by
  have hM := aside1 (may_start hp)
  obtain ⟨⟨k0, k1, k2⟩, k3, k4, k5, k6⟩ := hM.out.at_
  clear hp
  have e1 : decide (aW < 1) = false := decide_eq_false (by omega)
  have e2 : decide (128 < aW) = false := decide_eq_false (by omega)
  have n1 : decide ((n : Int) ≤ 4096) = false := decide_eq_false (by omega)
  have n2 : decide ((1 : Int) ≤ (n : Int)) = true := decide_eq_true (by omega)
  go_enter Try.func20, Try.ntmps20
  go_wp2_with fail
  have hMq := hM.out
  go_ret
  exact ⟨rfl, hMq.below⟩
set_option maxRecDepth 100000 in
set_option maxHeartbeats 4000000 in
theorem may5nh_b (nm : ByteArray) (Burst dum : Int) (A : Option Addr) (n c : Nat) (B : Option Addr) (m d p : Nat) (w : World) (hb : ¬ Burst = 0) (hs : 1 ≤ Burst ∧ Burst ≤ 65535) (hmm : m ≤ 9223372036854775807) (hnn : n ≤ 9223372036854775807) (hn : 4096 < n) (hp : w.heap[p]? = some (.cells (vals7 nm 5 64 0 Burst A n c B n d) 63 (0, 0))) :
    Calls Try.prog 20 #[.pointer (some ⟨p, 0, none⟩)] w fun e w' => e = .returned (.bool false) ∧ Below w.heap.size w w' := by
  have hM := aside1 (may_start hp)
  obtain ⟨⟨k0, k1, k2⟩, k3, k4, k5, k6⟩ := hM.out.at_
  clear hp
  have hbb : (Burst == 0) = false := by simp [hb]
  have b1 : decide (Burst < 1) = false := decide_eq_false (by omega)
  have b2 : decide (65535 < Burst) = false := decide_eq_false (by omega)
  have n1 : decide ((n : Int) ≤ 4096) = false := decide_eq_false (by omega)
  have n2 : decide ((1 : Int) ≤ (n : Int)) = true := decide_eq_true (by omega)
  go_enter Try.func20, Try.ntmps20
  go_wp2_with fail
  go_quiet (fail)
  have hMq := hM.out.next (below_drewN (Below.refl _ _) nq)
  clear k0 k1 k2 k3 k4 k5 k6
  obtain ⟨⟨k0, k1, k2⟩, k3, k4, k5, k6⟩ := hMq.at_
  go_wp2_with fail
  go_ret
  exact ⟨rfl, hMq.below⟩
set_option maxRecDepth 100000 in
set_option maxHeartbeats 4000000 in
theorem may5h1_r (nm : ByteArray) (Rate Burst dum : Int) (A : Option Addr) (n c : Nat) (B : Option Addr) (m d p : Nat) (w : World) (hr : ¬ Rate = 0) (hq : 0 ≤ Rate ∧ Rate ≤ 65535) (hs : 1 ≤ Burst ∧ Burst ≤ 65535) (hmm : m ≤ 9223372036854775807) (hnn : n ≤ 9223372036854775807) (hn : 1 ≤ n ∧ n ≤ 4096) (HH1 : Aside (∀ V, MA w w.heap.size p (vals7 nm 5 64 Rate Burst A n c B n d) V → Calls Try.prog 35 #[.slice A n c, .func (.func 33) #[] #[.pointer (some ⟨w.heap.size, 0, none⟩)]] V fun e w' => e = .returned (.bool true) ∧ Below V.heap.size V w')) (hp : w.heap[p]? = some (.cells (vals7 nm 5 64 Rate Burst A n c B n d) 63 (0, 0))) :
    Calls Try.prog 20 #[.pointer (some ⟨p, 0, none⟩)] w fun e w' => e = .returned (.bool false) ∧ Below w.heap.size w w' := by
  have hM := aside1 (may_start hp)
  obtain ⟨⟨k0, k1, k2⟩, k3, k4, k5, k6⟩ := hM.out.at_
  clear hp
  have hrb : (Rate == 0) = false := by simp [hr]
  have r1 : decide (Rate < 0) = false := decide_eq_false (by omega)
  have r2 : decide (65535 < Rate) = false := decide_eq_false (by omega)
  have b1 : decide (Burst < 1) = false := decide_eq_false (by omega)
  have b2 : decide (65535 < Burst) = false := decide_eq_false (by omega)
  go_enter Try.func20, Try.ntmps20
  go_wp2_with fail
  go_quiet (fail)
  have hMq := hM.out.next (below_drewN (Below.refl _ _) nq)
  clear k0 k1 k2 k3 k4 k5 k6
  obtain ⟨⟨k0, k1, k2⟩, k3, k4, k5, k6⟩ := hMq.at_
  go_wp2_with fail
  refine Calls.mono (HH1.out _ hMq) ?_
  rintro e w5 ⟨rfl, hb5⟩
  have hM5 := hMq.next hb5
  clear k0 k1 k2 k3 k4 k5 k6
  obtain ⟨⟨k0, k1, k2⟩, k3, k4, k5, k6⟩ := hM5.at_
  go_wp2_with fail
  go_ret
  exact ⟨rfl, hM5.below⟩
set_option maxRecDepth 100000 in
set_option maxHeartbeats 4000000 in
theorem may4h2 (nm : ByteArray) (dum : Int) (A : Option Addr) (n c : Nat) (B : Option Addr) (m d p : Nat) (w : World) (hmm : m ≤ 9223372036854775807) (hnn : n ≤ 9223372036854775807) (hn : 1 ≤ n ∧ n ≤ 4096) (HH1 : Aside (∀ V, MA w w.heap.size p (vals7 nm 4 64 0 0 A n c B 0 d) V → Calls Try.prog 35 #[.slice A n c, .func (.func 33) #[] #[.pointer (some ⟨w.heap.size, 0, none⟩)]] V fun e w' => e = .returned (.bool false) ∧ Below V.heap.size V w')) (HH2 : Aside (∀ V, MA w w.heap.size p (vals7 nm 4 64 0 0 A n c B 0 d) V → Calls Try.prog 36 #[.slice B 0 d, .func (.func 34) #[] #[]] V fun e w' => e = .returned (.bool true) ∧ w' = V)) (hp : w.heap[p]? = some (.cells (vals7 nm 4 64 0 0 A n c B 0 d) 63 (0, 0))) :
    Calls Try.prog 20 #[.pointer (some ⟨p, 0, none⟩)] w fun e w' => e = .returned (.bool false) ∧ Below w.heap.size w w' := by
  have hM := aside1 (may_start hp)
  obtain ⟨⟨k0, k1, k2⟩, k3, k4, k5, k6⟩ := hM.out.at_
  clear hp
  go_enter Try.func20, Try.ntmps20
  go_wp2_with fail
  have hMq := hM.out
  refine Calls.mono (HH1.out _ hMq) ?_
  rintro e w5 ⟨rfl, hb5⟩
  have hM5 := hMq.next hb5
  clear k0 k1 k2 k3 k4 k5 k6
  obtain ⟨⟨k0, k1, k2⟩, k3, k4, k5, k6⟩ := hM5.at_
  go_wp2_with fail
  refine Calls.mono (HH2.out _ hM5) ?_
  rintro e w6 ⟨rfl, rfl⟩
  go_wp2
  go_ret
  exact ⟨rfl, hM5.below⟩
end Go.Proofs.Ytanimonhnngfkaa.Own

/- may, of any array of kind 5; and what stands behind the kinds. -/
set_option linter.unusedVariables false
set_option linter.unusedSimpArgs false
namespace Go.Proofs.Ytanimonhnngfkaa.Own
open Go.RowKit

set_option maxRecDepth 100000 in
set_option maxHeartbeats 4000000 in
theorem may5w_b (nm : ByteArray) (Burst aW dum : Int) (A : Option Addr) (n c : Nat) (B : Option Addr) (m d p : Nat) (w : World) (hb : ¬ Burst = 0) (h1 : ¬ aW = 64) (hmm : m ≤ 9223372036854775807) (hnn : n ≤ 9223372036854775807) (hp : w.heap[p]? = some (.cells (vals7 nm 5 aW 0 Burst A n c B m d) 63 (0, 0))) :
    Calls Try.prog 20 #[.pointer (some ⟨p, 0, none⟩)] w fun e w' => e = .returned (.bool false) ∧ Below w.heap.size w w' := by
  have hM := aside1 (may_start hp)
  obtain ⟨⟨k0, k1, k2⟩, k3, k4, k5, k6⟩ := hM.out.at_
  clear hp
  have hbb : (Burst == 0) = false := by simp [hb]
  have e1 : (aW != 64) = true := by simp [h1]
  go_enter Try.func20, Try.ntmps20
  go_wp2_with fail
  go_quiet (fail)
  have hMq := hM.out.next (below_drewN (Below.refl _ _) nq)
  go_wp2
  go_ret
  exact ⟨rfl, hMq.below⟩
set_option maxRecDepth 100000 in
set_option maxHeartbeats 4000000 in
theorem may5rl_r (nm : ByteArray) (Rate Burst dum : Int) (A : Option Addr) (n c : Nat) (B : Option Addr) (m d p : Nat) (w : World) (hr : ¬ Rate = 0) (h1 : Rate < 0) (hmm : m ≤ 9223372036854775807) (hnn : n ≤ 9223372036854775807) (hp : w.heap[p]? = some (.cells (vals7 nm 5 64 Rate Burst A n c B m d) 63 (0, 0))) :
    Calls Try.prog 20 #[.pointer (some ⟨p, 0, none⟩)] w fun e w' => e = .returned (.bool false) ∧ Below w.heap.size w w' := by
  have hM := aside1 (may_start hp)
  obtain ⟨⟨k0, k1, k2⟩, k3, k4, k5, k6⟩ := hM.out.at_
  clear hp
  have hrb : (Rate == 0) = false := by simp [hr]
  have e1 : decide (Rate < 0) = true := decide_eq_true h1
  go_enter Try.func20, Try.ntmps20
  go_wp2_with fail
  go_quiet (fail)
  have hMq := hM.out.next (below_drewN (Below.refl _ _) nq)
  go_wp2
  go_ret
  exact ⟨rfl, hMq.below⟩
set_option maxRecDepth 100000 in
set_option maxHeartbeats 4000000 in
theorem may5bh_r (nm : ByteArray) (Rate Burst dum : Int) (A : Option Addr) (n c : Nat) (B : Option Addr) (m d p : Nat) (w : World) (hr : ¬ Rate = 0) (hq : 0 ≤ Rate ∧ Rate ≤ 65535) (h1 : 65535 < Burst) (hmm : m ≤ 9223372036854775807) (hnn : n ≤ 9223372036854775807) (hp : w.heap[p]? = some (.cells (vals7 nm 5 64 Rate Burst A n c B m d) 63 (0, 0))) :
    Calls Try.prog 20 #[.pointer (some ⟨p, 0, none⟩)] w fun e w' => e = .returned (.bool false) ∧ Below w.heap.size w w' := by
  have hM := aside1 (may_start hp)
  obtain ⟨⟨k0, k1, k2⟩, k3, k4, k5, k6⟩ := hM.out.at_
  clear hp
  have hrb : (Rate == 0) = false := by simp [hr]
  have r1 : decide (Rate < 0) = false := decide_eq_false (by omega)
  have r2 : decide (65535 < Rate) = false := decide_eq_false (by omega)
  have b1 : decide (Burst < 1) = false := decide_eq_false (by omega)
  have b2 : decide (65535 < Burst) = true := decide_eq_true h1
  go_enter Try.func20, Try.ntmps20
  go_wp2_with fail
  go_quiet (fail)
  have hMq := hM.out.next (below_drewN (Below.refl _ _) nq)
  go_wp2
  go_ret
  exact ⟨rfl, hMq.below⟩
set_option maxRecDepth 100000 in
set_option maxHeartbeats 4000000 in
theorem may5bh_b (nm : ByteArray) (Burst dum : Int) (A : Option Addr) (n c : Nat) (B : Option Addr) (m d p : Nat) (w : World) (hb : ¬ Burst = 0) (h1 : 65535 < Burst) (hmm : m ≤ 9223372036854775807) (hnn : n ≤ 9223372036854775807) (hp : w.heap[p]? = some (.cells (vals7 nm 5 64 0 Burst A n c B m d) 63 (0, 0))) :
    Calls Try.prog 20 #[.pointer (some ⟨p, 0, none⟩)] w fun e w' => e = .returned (.bool false) ∧ Below w.heap.size w w' := by
  have hM := aside1 (may_start hp)
  obtain ⟨⟨k0, k1, k2⟩, k3, k4, k5, k6⟩ := hM.out.at_
  clear hp
  have hbb : (Burst == 0) = false := by simp [hb]
  have b1 : decide (Burst < 1) = false := decide_eq_false (by omega)
  have b2 : decide (65535 < Burst) = true := decide_eq_true h1
  go_enter Try.func20, Try.ntmps20
  go_wp2_with fail
  go_quiet (fail)
  have hMq := hM.out.next (below_drewN (Below.refl _ _) nq)
  go_wp2
  go_ret
  exact ⟨rfl, hMq.below⟩
set_option maxRecDepth 100000 in
set_option maxHeartbeats 4000000 in
theorem may5bl_o (nm : ByteArray) (dum : Int) (A : Option Addr) (n c : Nat) (B : Option Addr) (m d p : Nat) (w : World) (hmm : m ≤ 9223372036854775807) (hnn : n ≤ 9223372036854775807) (hp : w.heap[p]? = some (.cells (vals7 nm 5 64 0 0 A n c B 0 d) 63 (0, 0))) :
    Calls Try.prog 20 #[.pointer (some ⟨p, 0, none⟩)] w fun e w' => e = .returned (.bool false) ∧ Below w.heap.size w w' := by
  have hM := aside1 (may_start hp)
  obtain ⟨⟨k0, k1, k2⟩, k3, k4, k5, k6⟩ := hM.out.at_
  clear hp
  go_enter Try.func20, Try.ntmps20
  go_wp2_with fail
  go_quiet (fail)
  have hMq := hM.out.next (below_drewN (Below.refl _ _) nq)
  go_wp2
  go_ret
  exact ⟨rfl, hMq.below⟩
set_option maxRecDepth 100000 in
set_option maxHeartbeats 4000000 in
theorem may5n0_r (nm : ByteArray) (Rate Burst dum : Int) (A : Option Addr) (n c : Nat) (B : Option Addr) (m d p : Nat) (w : World) (hr : ¬ Rate = 0) (hq : 0 ≤ Rate ∧ Rate ≤ 65535) (hs : 1 ≤ Burst ∧ Burst ≤ 65535) (hmm : m ≤ 9223372036854775807) (hnn : n ≤ 9223372036854775807) (hn : n < 1) (hp : w.heap[p]? = some (.cells (vals7 nm 5 64 Rate Burst A n c B n d) 63 (0, 0))) :
    Calls Try.prog 20 #[.pointer (some ⟨p, 0, none⟩)] w fun e w' => e = .returned (.bool false) ∧ Below w.heap.size w w' := by
  have hM := aside1 (may_start hp)
  obtain ⟨⟨k0, k1, k2⟩, k3, k4, k5, k6⟩ := hM.out.at_
  clear hp
  have hrb : (Rate == 0) = false := by simp [hr]
  have r1 : decide (Rate < 0) = false := decide_eq_false (by omega)
  have r2 : decide (65535 < Rate) = false := decide_eq_false (by omega)
  have b1 : decide (Burst < 1) = false := decide_eq_false (by omega)
  have b2 : decide (65535 < Burst) = false := decide_eq_false (by omega)
  have n1 : decide ((1 : Int) ≤ (n : Int)) = false := decide_eq_false (by omega)
  obtain rfl : n = 0 := by omega
  go_enter Try.func20, Try.ntmps20
  go_wp2_with fail
  go_quiet (fail)
  have hMq := hM.out.next (below_drewN (Below.refl _ _) nq)
  clear k0 k1 k2 k3 k4 k5 k6
  obtain ⟨⟨k0, k1, k2⟩, k3, k4, k5, k6⟩ := hMq.at_
  go_wp2_with fail
  go_ret
  exact ⟨rfl, hMq.below⟩
set_option maxRecDepth 100000 in
set_option maxHeartbeats 4000000 in
theorem may4nh (nm : ByteArray) (dum : Int) (A : Option Addr) (n c : Nat) (B : Option Addr) (m d p : Nat) (w : World) (hmm : m ≤ 9223372036854775807) (hnn : n ≤ 9223372036854775807) (hn : 4096 < n) (hp : w.heap[p]? = some (.cells (vals7 nm 4 64 0 0 A n c B 0 d) 63 (0, 0))) :
    Calls Try.prog 20 #[.pointer (some ⟨p, 0, none⟩)] w fun e w' => e = .returned (.bool false) ∧ Below w.heap.size w w' := by
  have hM := aside1 (may_start hp)
  obtain ⟨⟨k0, k1, k2⟩, k3, k4, k5, k6⟩ := hM.out.at_
  clear hp
  have n1 : decide ((n : Int) ≤ 4096) = false := decide_eq_false (by omega)
  have n2 : decide ((1 : Int) ≤ (n : Int)) = true := decide_eq_true (by omega)
  go_enter Try.func20, Try.ntmps20
  go_wp2_with fail
  have hMq := hM.out
  go_ret
  exact ⟨rfl, hMq.below⟩
set_option maxRecDepth 100000 in
set_option maxHeartbeats 4000000 in
theorem may3h1 (nm : ByteArray) (aW dum : Int) (A : Option Addr) (n c : Nat) (B : Option Addr) (m d p : Nat) (w : World) (h1 : 1 ≤ aW ∧ aW ≤ 128) (hmm : m ≤ 9223372036854775807) (hnn : n ≤ 9223372036854775807) (hn : 1 ≤ n ∧ n ≤ 4096) (HH1 : Aside (∀ V, MA w w.heap.size p (vals7 nm 3 aW 0 0 A n c B 0 d) V → Calls Try.prog 35 #[.slice A n c, .func (.func 33) #[] #[.pointer (some ⟨w.heap.size, 0, none⟩)]] V fun e w' => e = .returned (.bool true) ∧ Below V.heap.size V w')) (hp : w.heap[p]? = some (.cells (vals7 nm 3 aW 0 0 A n c B 0 d) 63 (0, 0))) :
    Calls Try.prog 20 #[.pointer (some ⟨p, 0, none⟩)] w fun e w' => e = .returned (.bool false) ∧ Below w.heap.size w w' := by
  have hM := aside1 (may_start hp)
  obtain ⟨⟨k0, k1, k2⟩, k3, k4, k5, k6⟩ := hM.out.at_
  clear hp
  have e1 : decide (aW < 1) = false := decide_eq_false (by omega)
  have e2 : decide (128 < aW) = false := decide_eq_false (by omega)
  go_enter Try.func20, Try.ntmps20
  go_wp2_with fail
  have hMq := hM.out
  refine Calls.mono (HH1.out _ hMq) ?_
  rintro e w5 ⟨rfl, hb5⟩
  have hM5 := hMq.next hb5
  clear k0 k1 k2 k3 k4 k5 k6
  obtain ⟨⟨k0, k1, k2⟩, k3, k4, k5, k6⟩ := hM5.at_
  go_wp2_with fail
  go_ret
  exact ⟨rfl, hM5.below⟩
set_option maxRecDepth 100000 in
set_option maxHeartbeats 4000000 in
theorem may5h1_b (nm : ByteArray) (Burst dum : Int) (A : Option Addr) (n c : Nat) (B : Option Addr) (m d p : Nat) (w : World) (hb : ¬ Burst = 0) (hs : 1 ≤ Burst ∧ Burst ≤ 65535) (hmm : m ≤ 9223372036854775807) (hnn : n ≤ 9223372036854775807) (hn : 1 ≤ n ∧ n ≤ 4096) (HH1 : Aside (∀ V, MA w w.heap.size p (vals7 nm 5 64 0 Burst A n c B n d) V → Calls Try.prog 35 #[.slice A n c, .func (.func 33) #[] #[.pointer (some ⟨w.heap.size, 0, none⟩)]] V fun e w' => e = .returned (.bool true) ∧ Below V.heap.size V w')) (hp : w.heap[p]? = some (.cells (vals7 nm 5 64 0 Burst A n c B n d) 63 (0, 0))) :
    Calls Try.prog 20 #[.pointer (some ⟨p, 0, none⟩)] w fun e w' => e = .returned (.bool false) ∧ Below w.heap.size w w' := by
  have hM := aside1 (may_start hp)
  obtain ⟨⟨k0, k1, k2⟩, k3, k4, k5, k6⟩ := hM.out.at_
  clear hp
  have hbb : (Burst == 0) = false := by simp [hb]
  have b1 : decide (Burst < 1) = false := decide_eq_false (by omega)
  have b2 : decide (65535 < Burst) = false := decide_eq_false (by omega)
  go_enter Try.func20, Try.ntmps20
  go_wp2_with fail
  go_quiet (fail)
  have hMq := hM.out.next (below_drewN (Below.refl _ _) nq)
  clear k0 k1 k2 k3 k4 k5 k6
  obtain ⟨⟨k0, k1, k2⟩, k3, k4, k5, k6⟩ := hMq.at_
  go_wp2_with fail
  refine Calls.mono (HH1.out _ hMq) ?_
  rintro e w5 ⟨rfl, hb5⟩
  have hM5 := hMq.next hb5
  clear k0 k1 k2 k3 k4 k5 k6
  obtain ⟨⟨k0, k1, k2⟩, k3, k4, k5, k6⟩ := hM5.at_
  go_wp2_with fail
  go_ret
  exact ⟨rfl, hM5.below⟩
set_option maxRecDepth 100000 in
set_option maxHeartbeats 4000000 in
theorem may5h2_r (nm : ByteArray) (Rate Burst dum : Int) (A : Option Addr) (n c : Nat) (B : Option Addr) (m d p : Nat) (w : World) (hr : ¬ Rate = 0) (hq : 0 ≤ Rate ∧ Rate ≤ 65535) (hs : 1 ≤ Burst ∧ Burst ≤ 65535) (hmm : m ≤ 9223372036854775807) (hnn : n ≤ 9223372036854775807) (hn : 1 ≤ n ∧ n ≤ 4096) (HH1 : Aside (∀ V, MA w w.heap.size p (vals7 nm 5 64 Rate Burst A n c B n d) V → Calls Try.prog 35 #[.slice A n c, .func (.func 33) #[] #[.pointer (some ⟨w.heap.size, 0, none⟩)]] V fun e w' => e = .returned (.bool false) ∧ Below V.heap.size V w')) (HH2 : Aside (∀ V, MA w w.heap.size p (vals7 nm 5 64 Rate Burst A n c B n d) V → Calls Try.prog 36 #[.slice B n d, .func (.func 34) #[] #[]] V fun e w' => e = .returned (.bool true) ∧ w' = V)) (hp : w.heap[p]? = some (.cells (vals7 nm 5 64 Rate Burst A n c B n d) 63 (0, 0))) :
    Calls Try.prog 20 #[.pointer (some ⟨p, 0, none⟩)] w fun e w' => e = .returned (.bool false) ∧ Below w.heap.size w w' := by
  have hM := aside1 (may_start hp)
  obtain ⟨⟨k0, k1, k2⟩, k3, k4, k5, k6⟩ := hM.out.at_
  clear hp
  have hrb : (Rate == 0) = false := by simp [hr]
  have r1 : decide (Rate < 0) = false := decide_eq_false (by omega)
  have r2 : decide (65535 < Rate) = false := decide_eq_false (by omega)
  have b1 : decide (Burst < 1) = false := decide_eq_false (by omega)
  have b2 : decide (65535 < Burst) = false := decide_eq_false (by omega)
  go_enter Try.func20, Try.ntmps20
  go_wp2_with fail
  go_quiet (fail)
  have hMq := hM.out.next (below_drewN (Below.refl _ _) nq)
  clear k0 k1 k2 k3 k4 k5 k6
  obtain ⟨⟨k0, k1, k2⟩, k3, k4, k5, k6⟩ := hMq.at_
  go_wp2_with fail
  refine Calls.mono (HH1.out _ hMq) ?_
  rintro e w5 ⟨rfl, hb5⟩
  have hM5 := hMq.next hb5
  clear k0 k1 k2 k3 k4 k5 k6
  obtain ⟨⟨k0, k1, k2⟩, k3, k4, k5, k6⟩ := hM5.at_
  go_wp2_with fail
  refine Calls.mono (HH2.out _ hM5) ?_
  rintro e w6 ⟨rfl, rfl⟩
  go_wp2
  go_ret
  exact ⟨rfl, hM5.below⟩
end Go.Proofs.Ytanimonhnngfkaa.Own

/- may, of any array of kind 5; and what stands behind the kinds. -/
set_option linter.unusedVariables false
set_option linter.unusedSimpArgs false
namespace Go.Proofs.Ytanimonhnngfkaa.Own
open Go.RowKit

set_option maxRecDepth 100000 in
set_option maxHeartbeats 4000000 in
theorem may5w_l (nm : ByteArray) (aW dum : Int) (A : Option Addr) (n c : Nat) (B : Option Addr) (m d p : Nat) (w : World) (hl : ¬ m = 0) (h1 : ¬ aW = 64) (hmm : m ≤ 9223372036854775807) (hnn : n ≤ 9223372036854775807) (hp : w.heap[p]? = some (.cells (vals7 nm 5 aW 0 0 A n c B m d) 63 (0, 0))) :
    Calls Try.prog 20 #[.pointer (some ⟨p, 0, none⟩)] w fun e w' => e = .returned (.bool false) ∧ Below w.heap.size w w' := by
  have hM := aside1 (may_start hp)
  obtain ⟨⟨k0, k1, k2⟩, k3, k4, k5, k6⟩ := hM.out.at_
  clear hp
  have hlb : ((m : Int) == 0) = false := by simp [hl]
  have e1 : (aW != 64) = true := by simp [h1]
  go_enter Try.func20, Try.ntmps20
  go_wp2_with fail
  go_quiet (fail)
  have hMq := hM.out.next (below_drewN (Below.refl _ _) nq)
  go_wp2
  go_ret
  exact ⟨rfl, hMq.below⟩
set_option maxRecDepth 100000 in
set_option maxHeartbeats 4000000 in
theorem may5rh_r (nm : ByteArray) (Rate Burst dum : Int) (A : Option Addr) (n c : Nat) (B : Option Addr) (m d p : Nat) (w : World) (hr : ¬ Rate = 0) (h1 : 65535 < Rate) (hmm : m ≤ 9223372036854775807) (hnn : n ≤ 9223372036854775807) (hp : w.heap[p]? = some (.cells (vals7 nm 5 64 Rate Burst A n c B m d) 63 (0, 0))) :
    Calls Try.prog 20 #[.pointer (some ⟨p, 0, none⟩)] w fun e w' => e = .returned (.bool false) ∧ Below w.heap.size w w' := by
  have hM := aside1 (may_start hp)
  obtain ⟨⟨k0, k1, k2⟩, k3, k4, k5, k6⟩ := hM.out.at_
  clear hp
  have hrb : (Rate == 0) = false := by simp [hr]
  have e1 : decide (Rate < 0) = false := decide_eq_false (by omega)
  have e2 : decide (65535 < Rate) = true := decide_eq_true h1
  go_enter Try.func20, Try.ntmps20
  go_wp2_with fail
  go_quiet (fail)
  have hMq := hM.out.next (below_drewN (Below.refl _ _) nq)
  go_wp2
  go_ret
  exact ⟨rfl, hMq.below⟩
set_option maxRecDepth 100000 in
set_option maxHeartbeats 4000000 in
theorem may5ml_r (nm : ByteArray) (Rate Burst dum : Int) (A : Option Addr) (n c : Nat) (B : Option Addr) (m d p : Nat) (w : World) (hr : ¬ Rate = 0) (hq : 0 ≤ Rate ∧ Rate ≤ 65535) (hs : 1 ≤ Burst ∧ Burst ≤ 65535) (h1 : ¬ m = n) (hmm : m ≤ 9223372036854775807) (hnn : n ≤ 9223372036854775807) (hp : w.heap[p]? = some (.cells (vals7 nm 5 64 Rate Burst A n c B m d) 63 (0, 0))) :
    Calls Try.prog 20 #[.pointer (some ⟨p, 0, none⟩)] w fun e w' => e = .returned (.bool false) ∧ Below w.heap.size w w' := by
  have hM := aside1 (may_start hp)
  obtain ⟨⟨k0, k1, k2⟩, k3, k4, k5, k6⟩ := hM.out.at_
  clear hp
  have hrb : (Rate == 0) = false := by simp [hr]
  have r1 : decide (Rate < 0) = false := decide_eq_false (by omega)
  have r2 : decide (65535 < Rate) = false := decide_eq_false (by omega)
  have b1 : decide (Burst < 1) = false := decide_eq_false (by omega)
  have b2 : decide (65535 < Burst) = false := decide_eq_false (by omega)
  have m1 : ((m : Int) != (n : Int)) = true := by simp; omega
  go_enter Try.func20, Try.ntmps20
  go_wp2_with fail
  go_quiet (fail)
  have hMq := hM.out.next (below_drewN (Below.refl _ _) nq)
  go_wp2
  go_ret
  exact ⟨rfl, hMq.below⟩
set_option maxRecDepth 100000 in
set_option maxHeartbeats 4000000 in
theorem may5ml_b (nm : ByteArray) (Burst dum : Int) (A : Option Addr) (n c : Nat) (B : Option Addr) (m d p : Nat) (w : World) (hb : ¬ Burst = 0) (hs : 1 ≤ Burst ∧ Burst ≤ 65535) (h1 : ¬ m = n) (hmm : m ≤ 9223372036854775807) (hnn : n ≤ 9223372036854775807) (hp : w.heap[p]? = some (.cells (vals7 nm 5 64 0 Burst A n c B m d) 63 (0, 0))) :
    Calls Try.prog 20 #[.pointer (some ⟨p, 0, none⟩)] w fun e w' => e = .returned (.bool false) ∧ Below w.heap.size w w' := by
  have hM := aside1 (may_start hp)
  obtain ⟨⟨k0, k1, k2⟩, k3, k4, k5, k6⟩ := hM.out.at_
  clear hp
  have hbb : (Burst == 0) = false := by simp [hb]
  have b1 : decide (Burst < 1) = false := decide_eq_false (by omega)
  have b2 : decide (65535 < Burst) = false := decide_eq_false (by omega)
  have m1 : ((m : Int) != (n : Int)) = true := by simp; omega
  go_enter Try.func20, Try.ntmps20
  go_wp2_with fail
  go_quiet (fail)
  have hMq := hM.out.next (below_drewN (Below.refl _ _) nq)
  go_wp2
  go_ret
  exact ⟨rfl, hMq.below⟩
set_option maxRecDepth 100000 in
set_option maxHeartbeats 4000000 in
theorem may3n0 (nm : ByteArray) (aW dum : Int) (A : Option Addr) (n c : Nat) (B : Option Addr) (m d p : Nat) (w : World) (h1 : 1 ≤ aW ∧ aW ≤ 128) (hmm : m ≤ 9223372036854775807) (hnn : n ≤ 9223372036854775807) (hn : n < 1) (hp : w.heap[p]? = some (.cells (vals7 nm 3 aW 0 0 A n c B 0 d) 63 (0, 0))) :
    Calls Try.prog 20 #[.pointer (some ⟨p, 0, none⟩)] w fun e w' => e = .returned (.bool false) ∧ Below w.heap.size w w' := by
  have hM := aside1 (may_start hp)
  obtain ⟨⟨k0, k1, k2⟩, k3, k4, k5, k6⟩ := hM.out.at_
  clear hp
  have e1 : decide (aW < 1) = false := decide_eq_false (by omega)
  have e2 : decide (128 < aW) = false := decide_eq_false (by omega)
  have n1 : decide ((1 : Int) ≤ (n : Int)) = false := decide_eq_false (by omega)
  obtain rfl : n = 0 := by omega
  go_enter Try.func20, Try.ntmps20
  go_wp2_with fail
  have hMq := hM.out
  go_ret
  exact ⟨rfl, hMq.below⟩
set_option maxRecDepth 100000 in
set_option maxHeartbeats 4000000 in
theorem may5n0_b (nm : ByteArray) (Burst dum : Int) (A : Option Addr) (n c : Nat) (B : Option Addr) (m d p : Nat) (w : World) (hb : ¬ Burst = 0) (hs : 1 ≤ Burst ∧ Burst ≤ 65535) (hmm : m ≤ 9223372036854775807) (hnn : n ≤ 9223372036854775807) (hn : n < 1) (hp : w.heap[p]? = some (.cells (vals7 nm 5 64 0 Burst A n c B n d) 63 (0, 0))) :
    Calls Try.prog 20 #[.pointer (some ⟨p, 0, none⟩)] w fun e w' => e = .returned (.bool false) ∧ Below w.heap.size w w' := by
  have hM := aside1 (may_start hp)
  obtain ⟨⟨k0, k1, k2⟩, k3, k4, k5, k6⟩ := hM.out.at_
  clear hp
  have hbb : (Burst == 0) = false := by simp [hb]
  have b1 : decide (Burst < 1) = false := decide_eq_false (by omega)
  have b2 : decide (65535 < Burst) = false := decide_eq_false (by omega)
  have n1 : decide ((1 : Int) ≤ (n : Int)) = false := decide_eq_false (by omega)
  obtain rfl : n = 0 := by omega
  go_enter Try.func20, Try.ntmps20
  go_wp2_with fail
  go_quiet (fail)
  have hMq := hM.out.next (below_drewN (Below.refl _ _) nq)
  clear k0 k1 k2 k3 k4 k5 k6
  obtain ⟨⟨k0, k1, k2⟩, k3, k4, k5, k6⟩ := hMq.at_
  go_wp2_with fail
  go_ret
  exact ⟨rfl, hMq.below⟩
set_option maxRecDepth 100000 in
set_option maxHeartbeats 4000000 in
theorem may5nh_r (nm : ByteArray) (Rate Burst dum : Int) (A : Option Addr) (n c : Nat) (B : Option Addr) (m d p : Nat) (w : World) (hr : ¬ Rate = 0) (hq : 0 ≤ Rate ∧ Rate ≤ 65535) (hs : 1 ≤ Burst ∧ Burst ≤ 65535) (hmm : m ≤ 9223372036854775807) (hnn : n ≤ 9223372036854775807) (hn : 4096 < n) (hp : w.heap[p]? = some (.cells (vals7 nm 5 64 Rate Burst A n c B n d) 63 (0, 0))) :
    Calls Try.prog 20 #[.pointer (some ⟨p, 0, none⟩)] w fun e w' => e = .returned (.bool false) ∧ Below w.heap.size w w' := by
  have hM := aside1 (may_start hp)
  obtain ⟨⟨k0, k1, k2⟩, k3, k4, k5, k6⟩ := hM.out.at_
  clear hp
  have hrb : (Rate == 0) = false := by simp [hr]
  have r1 : decide (Rate < 0) = false := decide_eq_false (by omega)
  have r2 : decide (65535 < Rate) = false := decide_eq_false (by omega)
  have b1 : decide (Burst < 1) = false := decide_eq_false (by omega)
  have b2 : decide (65535 < Burst) = false := decide_eq_false (by omega)
  have n1 : decide ((n : Int) ≤ 4096) = false := decide_eq_false (by omega)
  have n2 : decide ((1 : Int) ≤ (n : Int)) = true := decide_eq_true (by omega)
  go_enter Try.func20, Try.ntmps20
  go_wp2_with fail
  go_quiet (fail)
  have hMq := hM.out.next (below_drewN (Below.refl _ _) nq)
  clear k0 k1 k2 k3 k4 k5 k6
  obtain ⟨⟨k0, k1, k2⟩, k3, k4, k5, k6⟩ := hMq.at_
  go_wp2_with fail
  go_ret
  exact ⟨rfl, hMq.below⟩
set_option maxRecDepth 100000 in
set_option maxHeartbeats 4000000 in
theorem may4h1 (nm : ByteArray) (dum : Int) (A : Option Addr) (n c : Nat) (B : Option Addr) (m d p : Nat) (w : World) (hmm : m ≤ 9223372036854775807) (hnn : n ≤ 9223372036854775807) (hn : 1 ≤ n ∧ n ≤ 4096) (HH1 : Aside (∀ V, MA w w.heap.size p (vals7 nm 4 64 0 0 A n c B 0 d) V → Calls Try.prog 35 #[.slice A n c, .func (.func 33) #[] #[.pointer (some ⟨w.heap.size, 0, none⟩)]] V fun e w' => e = .returned (.bool true) ∧ Below V.heap.size V w')) (hp : w.heap[p]? = some (.cells (vals7 nm 4 64 0 0 A n c B 0 d) 63 (0, 0))) :
    Calls Try.prog 20 #[.pointer (some ⟨p, 0, none⟩)] w fun e w' => e = .returned (.bool false) ∧ Below w.heap.size w w' := by
  have hM := aside1 (may_start hp)
  obtain ⟨⟨k0, k1, k2⟩, k3, k4, k5, k6⟩ := hM.out.at_
  clear hp
  go_enter Try.func20, Try.ntmps20
  go_wp2_with fail
  have hMq := hM.out
  refine Calls.mono (HH1.out _ hMq) ?_
  rintro e w5 ⟨rfl, hb5⟩
  have hM5 := hMq.next hb5
  clear k0 k1 k2 k3 k4 k5 k6
  obtain ⟨⟨k0, k1, k2⟩, k3, k4, k5, k6⟩ := hM5.at_
  go_wp2_with fail
  go_ret
  exact ⟨rfl, hM5.below⟩
set_option maxRecDepth 100000 in
set_option maxHeartbeats 4000000 in
theorem may3h2 (nm : ByteArray) (aW dum : Int) (A : Option Addr) (n c : Nat) (B : Option Addr) (m d p : Nat) (w : World) (h1 : 1 ≤ aW ∧ aW ≤ 128) (hmm : m ≤ 9223372036854775807) (hnn : n ≤ 9223372036854775807) (hn : 1 ≤ n ∧ n ≤ 4096) (HH1 : Aside (∀ V, MA w w.heap.size p (vals7 nm 3 aW 0 0 A n c B 0 d) V → Calls Try.prog 35 #[.slice A n c, .func (.func 33) #[] #[.pointer (some ⟨w.heap.size, 0, none⟩)]] V fun e w' => e = .returned (.bool false) ∧ Below V.heap.size V w')) (HH2 : Aside (∀ V, MA w w.heap.size p (vals7 nm 3 aW 0 0 A n c B 0 d) V → Calls Try.prog 36 #[.slice B 0 d, .func (.func 34) #[] #[]] V fun e w' => e = .returned (.bool true) ∧ w' = V)) (hp : w.heap[p]? = some (.cells (vals7 nm 3 aW 0 0 A n c B 0 d) 63 (0, 0))) :
    Calls Try.prog 20 #[.pointer (some ⟨p, 0, none⟩)] w fun e w' => e = .returned (.bool false) ∧ Below w.heap.size w w' := by
  have hM := aside1 (may_start hp)
  obtain ⟨⟨k0, k1, k2⟩, k3, k4, k5, k6⟩ := hM.out.at_
  clear hp
  have e1 : decide (aW < 1) = false := decide_eq_false (by omega)
  have e2 : decide (128 < aW) = false := decide_eq_false (by omega)
  go_enter Try.func20, Try.ntmps20
  go_wp2_with fail
  have hMq := hM.out
  refine Calls.mono (HH1.out _ hMq) ?_
  rintro e w5 ⟨rfl, hb5⟩
  have hM5 := hMq.next hb5
  clear k0 k1 k2 k3 k4 k5 k6
  obtain ⟨⟨k0, k1, k2⟩, k3, k4, k5, k6⟩ := hM5.at_
  go_wp2_with fail
  refine Calls.mono (HH2.out _ hM5) ?_
  rintro e w6 ⟨rfl, rfl⟩
  go_wp2
  go_ret
  exact ⟨rfl, hM5.below⟩
set_option maxRecDepth 100000 in
set_option maxHeartbeats 4000000 in
theorem may5h2_b (nm : ByteArray) (Burst dum : Int) (A : Option Addr) (n c : Nat) (B : Option Addr) (m d p : Nat) (w : World) (hb : ¬ Burst = 0) (hs : 1 ≤ Burst ∧ Burst ≤ 65535) (hmm : m ≤ 9223372036854775807) (hnn : n ≤ 9223372036854775807) (hn : 1 ≤ n ∧ n ≤ 4096) (HH1 : Aside (∀ V, MA w w.heap.size p (vals7 nm 5 64 0 Burst A n c B n d) V → Calls Try.prog 35 #[.slice A n c, .func (.func 33) #[] #[.pointer (some ⟨w.heap.size, 0, none⟩)]] V fun e w' => e = .returned (.bool false) ∧ Below V.heap.size V w')) (HH2 : Aside (∀ V, MA w w.heap.size p (vals7 nm 5 64 0 Burst A n c B n d) V → Calls Try.prog 36 #[.slice B n d, .func (.func 34) #[] #[]] V fun e w' => e = .returned (.bool true) ∧ w' = V)) (hp : w.heap[p]? = some (.cells (vals7 nm 5 64 0 Burst A n c B n d) 63 (0, 0))) :
    Calls Try.prog 20 #[.pointer (some ⟨p, 0, none⟩)] w fun e w' => e = .returned (.bool false) ∧ Below w.heap.size w w' := by
  have hM := aside1 (may_start hp)
  obtain ⟨⟨k0, k1, k2⟩, k3, k4, k5, k6⟩ := hM.out.at_
  clear hp
  have hbb : (Burst == 0) = false := by simp [hb]
  have b1 : decide (Burst < 1) = false := decide_eq_false (by omega)
  have b2 : decide (65535 < Burst) = false := decide_eq_false (by omega)
  go_enter Try.func20, Try.ntmps20
  go_wp2_with fail
  go_quiet (fail)
  have hMq := hM.out.next (below_drewN (Below.refl _ _) nq)
  clear k0 k1 k2 k3 k4 k5 k6
  obtain ⟨⟨k0, k1, k2⟩, k3, k4, k5, k6⟩ := hMq.at_
  go_wp2_with fail
  refine Calls.mono (HH1.out _ hMq) ?_
  rintro e w5 ⟨rfl, hb5⟩
  have hM5 := hMq.next hb5
  clear k0 k1 k2 k3 k4 k5 k6
  obtain ⟨⟨k0, k1, k2⟩, k3, k4, k5, k6⟩ := hM5.at_
  go_wp2_with fail
  refine Calls.mono (HH2.out _ hM5) ?_
  rintro e w6 ⟨rfl, rfl⟩
  go_wp2
  go_ret
  exact ⟨rfl, hM5.below⟩
end Go.Proofs.Ytanimonhnngfkaa.Own

/- may, of any array, put together. -/
set_option linter.unusedVariables false
set_option linter.unusedSimpArgs false
namespace Go.Proofs.Ytanimonhnngfkaa.Own
open Go.RowKit

theorem may_hh1 (a : Arr) (hkd : a.kd = 3 ∨ a.kd = 4 ∨ a.kd = 5) (hB1 : 0 ≤ a.Burst) (hB2 : a.Burst ≤ 9223372036854775807) (hw : a.wf) (A : Option Addr) (n c : Nat) (B : Option Addr) (m d p : Nat) (w : World) (hR : ReadsNums w A n a.cs) (q : Bool) (hq : (!a.cs.all a.okCB) = q) :
    Aside (∀ V, MA w w.heap.size p (a.vals A n c B m d) V → Calls Try.prog 35 #[.slice A n c, .func (.func 33) #[] #[.pointer (some ⟨w.heap.size, 0, none⟩)]] V fun e w' => e = .returned (.bool q) ∧ Below V.heap.size V w') := by
  intro V hV
  have := has1_any a hkd hB1 hB2 A n c B m d A n c w.heap.size p V (hR.below hV.below) (fun j hj => hw j (by rw [hR.1]; exact hj)) hV.hb hV.hp
  rwa [hq] at this
theorem may_hh2 (a : Arr) (A : Option Addr) (n c : Nat) (B : Option Addr) (m d p : Nat) (w : World) (hS : Reads w .i64 B m a.ls) (q : Bool) (hq : (!a.ls.all (fun x => decide (0 ≤ x))) = q) :
    Aside (∀ V, MA w w.heap.size p (a.vals A n c B m d) V → Calls Try.prog 36 #[.slice B m d, .func (.func 34) #[] #[]] V fun e w' => e = .returned (.bool q) ∧ w' = V) := by
  intro V hV
  have := has2_any a.ls B m d V (hS.below hV.below)
  rwa [hq] at this
theorem four_ways (n : Nat) (x y : Bool) (h : (decide (1 ≤ n ∧ n ≤ 4096) && (x && y)) = false) : n < 1 ∨ 4096 < n ∨ ((1 ≤ n ∧ n ≤ 4096) ∧ (!x) = true) ∨ ((1 ≤ n ∧ n ≤ 4096) ∧ (!x) = false ∧ (!y) = true) := by
  by_cases h1 : n < 1
  · exact .inl h1
  · by_cases h2 : 4096 < n
    · exact .inr (.inl h2)
    · have h3 : 1 ≤ n ∧ n ≤ 4096 := by omega
      cases x
      · exact .inr (.inr (.inl ⟨h3, rfl⟩))
      · cases y
        · exact .inr (.inr (.inr ⟨h3, rfl, rfl⟩))
        · rw [decide_eq_true h3] at h; cases h
theorem may_no (a : Arr) (hw : a.wf) (hz : a.okB = false) (A : Option Addr) (n c : Nat) (B : Option Addr) (m d p : Nat) (w : World) (hR : ReadsNums w A n a.cs) (hS : Reads w .i64 B m a.ls) (hp : w.heap[p]? = some (.cells (a.vals A n c B m d) 63 (0, 0))) :
    Calls Try.prog 20 #[.pointer (some ⟨p, 0, none⟩)] w fun e w' => e = .returned (.bool false) ∧ Below w.heap.size w w' := by
  have hnl : a.cs.length = n := hR.1
  have hml : a.ls.length = m := hS.1
  have hnn := hR.2.1
  have hmm := hS.2.1
  have hh1 := fun (q : Bool) h3 h1 h2 (hq : (!a.cs.all a.okCB) = q) => may_hh1 a h3 h1 h2 hw A n c B m d p w hR q hq
  have hh2 := fun (q : Bool) (hq : (!a.ls.all (fun x => decide (0 ≤ x))) = q) => may_hh2 a A n c B m d p w hS q hq
  unfold Arr.okB at hz
  rw [hnl] at hz
  by_cases hs : a.scalB = true
  · rw [hs, Bool.true_and] at hz
    unfold Arr.scalB at hs
    rw [hml, hnl] at hs
    have h4 := four_ways _ _ _ hz
    generalize (!a.cs.all a.okCB) = qx at *
    generalize (!a.ls.all (fun x => decide (0 ≤ x))) = qy at *
    obtain ⟨nm, kd, aW, Rate, Burst, cs, ls⟩ := a
    simp only at hs hh1 hh2
    have hB1 : 0 ≤ (0 : Int) := by decide
    have hB2 : (0 : Int) ≤ 9223372036854775807 := by decide
    by_cases k3 : kd = 3
    · rw [if_pos k3] at hs
      simp only [Bool.and_eq_true, decide_eq_true_eq] at hs
      obtain ⟨s1, s2, s3, s4⟩ := hs
      subst k3 s2 s3 s4
      rcases h4 with h | h | ⟨h, hx⟩ | ⟨h, hx, hy⟩
      · exact may3n0 nm aW 0 A n c B 0 d p w s1 hmm hnn h hp
      · exact may3nh nm aW 0 A n c B 0 d p w s1 hmm hnn h hp
      · exact may3h1 nm aW 0 A n c B 0 d p w s1 hmm hnn h (hh1 true (.inl rfl) hB1 hB2 hx) hp
      · exact may3h2 nm aW 0 A n c B 0 d p w s1 hmm hnn h (hh1 false (.inl rfl) hB1 hB2 hx) (hh2 true hy) hp
    · rw [if_neg k3] at hs
      by_cases k4 : kd = 4
      · rw [if_pos k4] at hs
        simp only [Bool.and_eq_true, decide_eq_true_eq] at hs
        obtain ⟨s1, s2, s3, s4⟩ := hs
        subst k4 s1 s2 s3 s4
        rcases h4 with h | h | ⟨h, hx⟩ | ⟨h, hx, hy⟩
        · exact may4n0 nm 0 A n c B 0 d p w hmm hnn h hp
        · exact may4nh nm 0 A n c B 0 d p w hmm hnn h hp
        · exact may4h1 nm 0 A n c B 0 d p w hmm hnn h (hh1 true (.inr (.inl rfl)) hB1 hB2 hx) hp
        · exact may4h2 nm 0 A n c B 0 d p w hmm hnn h (hh1 false (.inr (.inl rfl)) hB1 hB2 hx) (hh2 true hy) hp
      · rw [if_neg k4] at hs
        by_cases k5 : kd = 5
        · rw [if_pos k5] at hs
          simp only [Bool.and_eq_true, decide_eq_true_eq] at hs
          obtain ⟨s1, s2, s3, s4⟩ := hs
          subst k5 s1 s4
          have hB1 : 0 ≤ Burst := by omega
          have hB2 : Burst ≤ 9223372036854775807 := by omega
          by_cases hr : Rate = 0
          · subst hr
            have hb : ¬ Burst = 0 := by omega
            rcases h4 with h | h | ⟨h, hx⟩ | ⟨h, hx, hy⟩
            · exact may5n0_b nm Burst 0 A m c B 0 d p w hb s3 (by omega) hnn h hp
            · exact may5nh_b nm Burst 0 A m c B 0 d p w hb s3 (by omega) hnn h hp
            · exact may5h1_b nm Burst 0 A m c B 0 d p w hb s3 (by omega) hnn h (hh1 true (.inr (.inr rfl)) hB1 hB2 hx) hp
            · exact may5h2_b nm Burst 0 A m c B 0 d p w hb s3 (by omega) hnn h (hh1 false (.inr (.inr rfl)) hB1 hB2 hx) (hh2 true hy) hp
          · rcases h4 with h | h | ⟨h, hx⟩ | ⟨h, hx, hy⟩
            · exact may5n0_r nm Rate Burst 0 A m c B 0 d p w hr s2 s3 (by omega) hnn h hp
            · exact may5nh_r nm Rate Burst 0 A m c B 0 d p w hr s2 s3 (by omega) hnn h hp
            · exact may5h1_r nm Rate Burst 0 A m c B 0 d p w hr s2 s3 (by omega) hnn h (hh1 true (.inr (.inr rfl)) hB1 hB2 hx) hp
            · exact may5h2_r nm Rate Burst 0 A m c B 0 d p w hr s2 s3 (by omega) hnn h (hh1 false (.inr (.inr rfl)) hB1 hB2 hx) (hh2 true hy) hp
        · rw [if_neg k5] at hs
          cases hs
  · have hs' : a.scalB = false := by cases h : a.scalB; rfl; exact absurd h hs
    clear hs hz hh1 hh2
    unfold Arr.scalB at hs'
    rw [hml, hnl] at hs'
    obtain ⟨nm, kd, aW, Rate, Burst, cs, ls⟩ := a
    simp only at hs'
    by_cases k3 : kd = 3
    · rw [if_pos k3] at hs'
      subst k3
      by_cases w1 : aW < 1
      · by_cases hr : Rate = 0
        · subst hr
          by_cases hb : Burst = 0
          · subst hb
            by_cases hl : m = 0
            · subst hl; exact may3lo_o nm aW 0 A n c B 0 d p w w1 hnn hp
            · exact may3lo_l nm aW 0 A n c B m d p w hl w1 hnn hmm hp
          · exact may3lo_b nm aW Burst 0 A n c B m d p w hb w1 hnn hmm hp
        · exact may3lo_r nm aW Rate Burst 0 A n c B m d p w hr w1 hnn hmm hp
      · by_cases w2 : 128 < aW
        · by_cases hr : Rate = 0
          · subst hr
            by_cases hb : Burst = 0
            · subst hb
              by_cases hl : m = 0
              · subst hl; exact may3hi_o nm aW 0 A n c B 0 d p w w1 w2 hnn hp
              · exact may3hi_l nm aW 0 A n c B m d p w hl w1 w2 hnn hmm hp
            · exact may3hi_b nm aW Burst 0 A n c B m d p w hb w1 w2 hnn hmm hp
          · exact may3hi_r nm aW Rate Burst 0 A n c B m d p w hr w1 w2 hnn hmm hp
        · by_cases hr : Rate = 0
          · subst hr
            by_cases hb : Burst = 0
            · subst hb
              by_cases hl : m = 0
              · subst hl
                rw [decide_eq_true (show 1 ≤ aW ∧ aW ≤ 128 by omega)] at hs'
                simp at hs'
              · exact may3no_l nm aW 0 A n c B m d p w hl w1 w2 hnn hmm hp
            · exact may3no_b nm aW Burst 0 A n c B m d p w hb w1 w2 hnn hmm hp
          · exact may3no_r nm aW Rate Burst 0 A n c B m d p w hr w1 w2 hnn hmm hp
    · rw [if_neg k3] at hs'
      by_cases k4 : kd = 4
      · rw [if_pos k4] at hs'
        subst k4
        by_cases w1 : aW = 64
        · subst w1
          by_cases hr : Rate = 0
          · subst hr
            by_cases hb : Burst = 0
            · subst hb
              by_cases hl : m = 0
              · subst hl; simp at hs'
              · exact may4no_l nm 0 A n c B m d p w hl hnn hmm hp
            · exact may4no_b nm Burst 0 A n c B m d p w hb hnn hmm hp
          · exact may4no_r nm Rate Burst 0 A n c B m d p w hr hnn hmm hp
        · by_cases hr : Rate = 0
          · subst hr
            by_cases hb : Burst = 0
            · subst hb
              by_cases hl : m = 0
              · subst hl; exact may4w_o nm aW 0 A n c B 0 d p w w1 hnn hp
              · exact may4w_l nm aW 0 A n c B m d p w hl w1 hnn hmm hp
            · exact may4w_b nm aW Burst 0 A n c B m d p w hb w1 hnn hmm hp
          · exact may4w_r nm aW Rate Burst 0 A n c B m d p w hr w1 hnn hmm hp
      · rw [if_neg k4] at hs'
        by_cases k5 : kd = 5
        · rw [if_pos k5] at hs'
          subst k5
          by_cases w1 : aW = 64
          · subst w1
            by_cases hr : Rate = 0
            · subst hr
              by_cases hb : Burst = 0
              · subst hb
                by_cases hl : m = 0
                · subst hl; exact may5bl_o nm 0 A n c B 0 d p w (by omega) hnn hp
                · exact may5bl_l nm 0 A n c B m d p w hl hmm hnn hp
              · by_cases b1 : Burst < 1
                · exact may5bl_b nm Burst 0 A n c B m d p w hb b1 hmm hnn hp
                · by_cases b2 : 65535 < Burst
                  · exact may5bh_b nm Burst 0 A n c B m d p w hb b2 hmm hnn hp
                  · refine may5ml_b nm Burst 0 A n c B m d p w hb ⟨by omega, by omega⟩ (fun h => ?_) hmm hnn hp
                    rw [decide_eq_true (show 1 ≤ Burst ∧ Burst ≤ 65535 by omega), decide_eq_true h] at hs'
                    simp at hs'
            · by_cases r1 : Rate < 0
              · exact may5rl_r nm Rate Burst 0 A n c B m d p w hr r1 hmm hnn hp
              · by_cases r2 : 65535 < Rate
                · exact may5rh_r nm Rate Burst 0 A n c B m d p w hr r2 hmm hnn hp
                · by_cases b1 : Burst < 1
                  · exact may5bl_r nm Rate Burst 0 A n c B m d p w hr ⟨by omega, by omega⟩ b1 hmm hnn hp
                  · by_cases b2 : 65535 < Burst
                    · exact may5bh_r nm Rate Burst 0 A n c B m d p w hr ⟨by omega, by omega⟩ b2 hmm hnn hp
                    · refine may5ml_r nm Rate Burst 0 A n c B m d p w hr ⟨by omega, by omega⟩ ⟨by omega, by omega⟩ (fun h => ?_) hmm hnn hp
                      rw [decide_eq_true (show 1 ≤ Burst ∧ Burst ≤ 65535 by omega), decide_eq_true h, decide_eq_true (show 0 ≤ Rate ∧ Rate ≤ 65535 by omega)] at hs'
                      simp at hs'
          · by_cases hr : Rate = 0
            · subst hr
              by_cases hb : Burst = 0
              · subst hb
                by_cases hl : m = 0
                · subst hl; exact may5w_o nm aW 0 A n c B 0 d p w w1 (by omega) hnn hp
                · exact may5w_l nm aW 0 A n c B m d p w hl w1 hmm hnn hp
              · exact may5w_b nm Burst aW 0 A n c B m d p w hb w1 hmm hnn hp
            · exact may5w_r nm Rate Burst aW 0 A n c B m d p w hr w1 hmm hnn hp
        · by_cases hr : Rate = 0
          · subst hr
            by_cases hb : Burst = 0
            · subst hb
              by_cases hl : m = 0
              · subst hl; exact mayx_o nm kd aW 0 A n c B 0 d p w k3 k4 k5 hnn hp
              · exact mayx_l nm kd aW 0 A n c B m d p w hl k3 k4 k5 hnn hmm hp
            · exact mayx_b nm kd aW Burst 0 A n c B m d p w hb k3 k4 k5 hnn hmm hp
          · exact mayx_r nm kd aW Rate Burst 0 A n c B m d p w hr k3 k4 k5 hnn hmm hp
theorem may_any (a : Arr) (hw : a.wf) (A : Option Addr) (n c : Nat) (B : Option Addr) (m d p : Nat) (w : World) (hR : ReadsNums w A n a.cs) (hS : Reads w .i64 B m a.ls) (hp : w.heap[p]? = some (.cells (a.vals A n c B m d) 63 (0, 0))) :
    Calls Try.prog 20 #[.pointer (some ⟨p, 0, none⟩)] w fun e w' => e = .returned (.bool a.okB) ∧ Below w.heap.size w w' := by
  by_cases h : a.okB = true
  · rw [h]
    exact may_ok a (a.ok_of hw h) A n c B m d p w hR hS hp
  · have e : a.okB = false := by cases h' : a.okB; rfl; exact absurd h' h
    rw [e]
    exact may_no a hw e A n c B m d p w hR hS hp
end Go.Proofs.Ytanimonhnngfkaa.Own

/- copy into a block of the call's own, of elements of any number of cells. -/
set_option linter.unusedVariables false
set_option linter.unusedSimpArgs false
namespace Go.Proofs.Ytanimonhnngfkaa.Own
open Go.RowKit

theorem run_copy_cells {P : Program} (w : World) (dT sT ty elem : TypeId) (k m g o dLen dCap : Nat) (a : Addr) (sLen sCap : Nat) (cur : Array Value) (t : TypeId) (cs : List Value)
    (hu : P.underlying dT = some (.slice elem)) (hs : (P.info? elem).map (·.size) = some k) (hg : w.heap[g]? = some (.cells cur t (0, 0))) (hm : m = Nat.min sLen dLen) (hn : cs.length = m * k)
    (hsrc : ∀ j v, cs[j]? = some v → w.cell? (a.add j) = some v) (hfit : o + cs.length ≤ cur.size) (h1 : ∀ v ∈ cs, v.oneCell' = true) :
    (Builtin.copy_ #[dT, sT] ty #[.slice (some ⟨g, o, none⟩) dLen dCap, .slice (some a) sLen sCap]).run P w = .ok (goInt m) (w.setRow g (cur.toList.take o ++ cs ++ cur.toList.drop (o + cs.length)).toArray) := by
  have hl := run_loadCells_list (P := P) w a cs hsrc
  have hst := run_storeCells_at P g o t cs 0 cur w hg (by simpa using hfit) h1
  cases hq : P.info? elem with
  | none => simp [hq] at hs
  | some i =>
    have hi : i.size = k := by simpa [hq] using hs
    simp [Builtin.copy_, run_underlying hu, Builtin.lenOf, Builtin.firstCells, sizeOf, typeInfo, hq, hi, ← hm, ← hn, hl, hst]
theorem wp_copy_cells {P : Program} {w : World} {o : Oper} {a : Act} {K : Act → World → Prop} {Q : Exit → Act → World → Prop} (d s : Operand) (dT sT : TypeId)
    (ho : o.op = .call { callee := .builtin .copy, args := #[d, s], argTypes := #[dT, sT] }) (elem : TypeId) (k m : Nat) (hu : P.underlying dT = some (.slice elem)) (hsz : (P.info? elem).map (·.size) = some k)
    (g off dLen dCap : Nat) (ad : Addr) (sLen sCap : Nat) (hd : a.eval d = .slice (some ⟨g, off, none⟩) dLen dCap) (hs : a.eval s = .slice (some ad) sLen sCap)
    (cur : Array Value) (t : TypeId) (hg : w.heap[g]? = some (.cells cur t (0, 0))) (hm : m = Nat.min sLen dLen) (cs : List Value) (hn : cs.length = m * k)
    (hsrc : ∀ j v, cs[j]? = some v → w.cell? (ad.add j) = some v) (hfit : off + cs.length ≤ cur.size) (h1 : ∀ v ∈ cs, v.oneCell' = true) (B : Nat) (w0 : World) (hb : Below B w0 w) (hBg : B ≤ g)
    (h : ∀ w', Aside (w'.heap[g]? = some (.cells (cur.toList.take off ++ cs ++ cur.toList.drop (off + cs.length)).toArray t (0, 0))) → Below B w0 w' → K (a.put o.dst (goInt m)) w') : o.wp P a w K Q := by
  have hrun := run_copy_cells (P := P) w dT sT o.type elem k m g off dLen dCap ad sLen sCap cur t cs hu hsz hg hm hn hsrc hfit h1
  unfold Oper.wp
  simp [execOp, ho, resolve, invoke, builtin, hd, hs, hrun, Result.andThen]
  have h2 : (w.setRow g (cur.toList.take off ++ cs ++ cur.toList.drop (off + cs.length)).toArray).heap[g]? = some (.cells (cur.toList.take off ++ cs ++ cur.toList.drop (off + cs.length)).toArray t (0, 0)) := setRow_heap w g _ _ t _ hg
  have h3 := h _ h2 (below_setRow hb hBg _)
  simp only [List.append_assoc] at h3
  exact h3
theorem copy_cells {P : Program} {w : World} {ops : Array Oper} {rest : List Oper} {o : Oper} {a : Act} {Q : Exit → Act → World → Prop} (hgd : o.guard = none) (d s : Operand) (dT sT : TypeId)
    (ho : o.op = .call { callee := .builtin .copy, args := #[d, s], argTypes := #[dT, sT] }) (elem : TypeId) (k m : Nat) (hu : P.underlying dT = some (.slice elem)) (hsz : (P.info? elem).map (·.size) = some k)
    (g off dLen dCap : Nat) (ad : Addr) (sLen sCap : Nat) (hd : a.eval d = .slice (some ⟨g, off, none⟩) dLen dCap) (hs : a.eval s = .slice (some ad) sLen sCap)
    (cur : Array Value) (t : TypeId) (hg : w.heap[g]? = some (.cells cur t (0, 0))) (hm : m = Nat.min sLen dLen) (cs : List Value) (hn : cs.length = m * k)
    (hsrc : ∀ j v, cs[j]? = some v → w.cell? (ad.add j) = some v) (hfit : off + cs.length ≤ cur.size) (h1 : ∀ v ∈ cs, v.oneCell' = true) (B : Nat) (w0 : World) (hb : Below B w0 w) (hBg : B ≤ g)
    (h : ∀ w', Aside (w'.heap[g]? = some (.cells (cur.toList.take off ++ cs ++ cur.toList.drop (off + cs.length)).toArray t (0, 0))) → Below B w0 w' → wpList P ops Q rest (a.put o.dst (goInt m)) w') :
    wpList P ops Q (o :: rest) a w := by
  refine wpList_plain hgd fun K hK => ?_
  exact wp_copy_cells d s dT sT ho elem k m hu hsz g off dLen dCap ad sLen sCap hd hs cur t hg hm cs hn hsrc hfit h1 B w0 hb hBg fun w' h1 h2 => hK _ _ (h w' h1 h2)
theorem step_copy_cells {P : Program} {w : World} {ops : Array Oper} {o : Oper} {a : Act} {K : Act → World → Prop} {Q : Exit → Act → World → Prop} {E : Prop} (hgd : o.guard = none) (d s : Operand) (dT sT : TypeId)
    (ho : o.op = .call { callee := .builtin .copy, args := #[d, s], argTypes := #[dT, sT] }) (elem : TypeId) (k m : Nat) (hu : P.underlying dT = some (.slice elem)) (hsz : (P.info? elem).map (·.size) = some k)
    (g off dLen dCap : Nat) (ad : Addr) (sLen sCap : Nat) (hd : a.eval d = .slice (some ⟨g, off, none⟩) dLen dCap) (hs : a.eval s = .slice (some ad) sLen sCap)
    (cur : Array Value) (t : TypeId) (hg : w.heap[g]? = some (.cells cur t (0, 0))) (hm : m = Nat.min sLen dLen) (cs : List Value) (hn : cs.length = m * k)
    (hsrc : ∀ j v, cs[j]? = some v → w.cell? (ad.add j) = some v) (hfit : off + cs.length ≤ cur.size) (h1 : ∀ v ∈ cs, v.oneCell' = true) (B : Nat) (w0 : World) (hb : Below B w0 w) (hBg : B ≤ g)
    (h : ∀ w', Aside (w'.heap[g]? = some (.cells (cur.toList.take off ++ cs ++ cur.toList.drop (off + cs.length)).toArray t (0, 0))) → Below B w0 w' → K (a.put o.dst (goInt m)) w') :
    if Region.wanted o (yielded ops a.tmps) = true then Oper.wp P o a w K Q else E := by
  have hw : Region.wanted o (yielded ops a.tmps) = true := by simp [Region.wanted, hgd]
  rw [if_pos hw]
  exact wp_copy_cells d s dT sT ho elem k m hu hsz g off dLen dCap ad sLen sCap hd hs cur t hg hm cs hn hsrc hfit h1 B w0 hb hBg h
end Go.Proofs.Ytanimonhnngfkaa.Own

/- slices.Repeat of one number. -/
set_option linter.unusedVariables false
set_option linter.unusedSimpArgs false
namespace Go.Proofs.Ytanimonhnngfkaa.Own
open Go.RowKit

theorem mul64_one (n : Nat) (hn : n ≤ 1048576) (w : World) : Calls Try.prog 45 #[.int .u64 1, .int .u64 (n : Int)] w fun e w' => e = .returned (.tuple #[.int .u64 0, .int .u64 (n : Int)]) ∧ w = w' := by
  have e1 : bits .and .u64 (n : Int) 4294967295 = (n : Int) := by
    have h := bits_mask .u64 64 (by decide) wraps_u64 32 (by decide) (n : Int) (by omega) (by omega)
    rw [show (2 : Int) ^ 32 - 1 = 4294967295 by decide, show (2 : Int) ^ 32 = 4294967296 by decide] at h
    rw [h]
    omega
  have e2 : (n : Int) / 4294967296 = 0 := by omega
  have e3 : (0 : Int) ≤ (n : Int) := by omega
  have e5 : bits .and .u64 1 4294967295 = 1 := by decide
  have e6 : IntKind.u64.wrap (n : Int) = (n : Int) := by rw [IntKind.wrap_u64]; omega
  have e7 : bits .and .u64 0 4294967295 = 0 := by decide
  have e8 : IntKind.u64.wrap 0 = 0 := by decide
  have e4 : (n : Int) ≤ 1048576 := by omega
  go_enter Try.func45, Try.ntmps45
  go_wp2_with fail
  go_ret2
  exact ⟨rfl, rfl⟩
theorem mul_one (n : Nat) (hn : n ≤ 1048576) (w : World) : Calls Try.prog 32 #[.int .u64 1, .int .u64 (n : Int)] w fun e w' => e = .returned (.tuple #[.int .u64 0, .int .u64 (n : Int)]) ∧ w = w' := by
  go_enter Try.func32, Try.ntmps32
  go_wp2_with fail
  refine (mul64_one n hn _).mono ?_
  rintro e w' ⟨rfl, rfl⟩
  go_wp2
  go_ret2
  exact ⟨rfl, rfl⟩

theorem makeNums (m : Nat) (h : m ≤ 1048576) : ∀ W : World, (Instr.makeSlice 30 (.int .i64 (m : Int)) (.int .i64 (m : Int))).run Try.prog W = .ok (.slice (some ⟨W.heap.size, 0, none⟩) m m) (W.alloc (.cells (madeCells #[.int .i64 0, .int .u64 0, .int .u64 0] (m * 3)) 45)) := by
  intro W
  obtain ⟨i, hi, hzz⟩ := Option.map_eq_some_iff.1 infoBits
  simp only [Prod.mk.injEq] at hzz
  obtain ⟨hz, hs, hb⟩ := hzz
  have := run_make (P := Try.prog) W 30 45 i _ Try.underlying30 hi hz .i64 .i64 m m (by omega) (by omega) (by rw [hb]; omega) (by omega)
  rw [hs] at this
  simpa [Value.cells] using this
theorem numsV_take (l : List Num) (k : Nat) : (numsV l).take (k * 3) = numsV (l.take k) := by
  induction l generalizing k with
  | nil => simp [numsV]
  | cons x l ih =>
    have e : ∀ l : List Num, numsV (x :: l) = .int .i64 x.W :: .int .u64 x.Hi :: .int .u64 x.Lo :: numsV l := fun l => by unfold numsV; rw [List.flatMap_cons]; rfl
    cases k with
    | zero => simp [numsV]
    | succ k => rw [e, List.take_succ_cons, e, show (k + 1) * 3 = k * 3 + 1 + 1 + 1 by omega, List.take_succ_cons, List.take_succ_cons, List.take_succ_cons, ih]
theorem numsV_drop (l : List Num) (k : Nat) : (numsV l).drop (k * 3) = numsV (l.drop k) := by
  induction l generalizing k with
  | nil => simp [numsV]
  | cons x l ih =>
    have e : ∀ l : List Num, numsV (x :: l) = .int .i64 x.W :: .int .u64 x.Hi :: .int .u64 x.Lo :: numsV l := fun l => by unfold numsV; rw [List.flatMap_cons]; rfl
    cases k with
    | zero => simp
    | succ k => rw [e, List.drop_succ_cons, show (k + 1) * 3 = k * 3 + 1 + 1 + 1 by omega, List.drop_succ_cons, List.drop_succ_cons, List.drop_succ_cons, ih]
theorem numsV_one_cell (l : List Num) : ∀ v ∈ numsV l, v.oneCell' = true := by
  intro v hv
  unfold numsV at hv
  obtain ⟨x, _, hx⟩ := List.mem_flatMap.1 hv
  simp [Num.cells] at hx
  rcases hx with rfl | rfl | rfl <;> rfl
theorem madeNums (m : Nat) : (madeCells #[.int .i64 0, .int .u64 0, .int .u64 0] (m * 3)).toList = numsV (List.replicate m zeroNum) := by
  apply List.ext_getElem
  · rw [numsV_length, List.length_replicate]; simp [size_madeCells]
  · intro i h1 h2
    have hi : i < m * 3 := by simpa [size_madeCells] using h1
    have hj : i / 3 < (List.replicate m zeroNum).length := by rw [List.length_replicate]; omega
    obtain ⟨c0, c1, c2⟩ := numsV_get (List.replicate m zeroNum) (i / 3) hj
    have hg : (List.replicate m zeroNum).getD (i / 3) zeroNum = zeroNum := by
      rw [List.getD_eq_getElem?_getD, List.getElem?_eq_getElem hj]; simp
    rw [hg] at c0 c1 c2
    simp only [madeCells, Array.toList_map, Array.toList_range, List.getElem_map, List.getElem_range]
    have e : i % 3 = 0 ∨ i % 3 = 1 ∨ i % 3 = 2 := by omega
    rcases e with e | e | e
    · have : i = i / 3 * 3 := by omega
      rw [← this, List.getElem?_eq_getElem h2] at c0
      injection c0 with c0
      rw [c0]
      simp [e, zeroNum]
    · have : i = i / 3 * 3 + 1 := by omega
      rw [← this, List.getElem?_eq_getElem h2] at c1
      injection c1 with c1
      rw [c1]
      simp [e, zeroNum]
    · have : i = i / 3 * 3 + 2 := by omega
      rw [← this, List.getElem?_eq_getElem h2] at c2
      injection c2 with c2
      rw [c2]
      simp [e, zeroNum]
/-- copy, as a run: what is left is a world of which the row is known. -/
theorem copy_nums (w : World) (B : Nat) (w0 : World) (dT sT ty : TypeId) (m g o dLen dCap : Nat) (a : Addr) (sLen sCap : Nat) (cur : List Num) (cs : List Num)
    (hu : Try.prog.underlying dT = some (.slice 45)) (hg : w.heap[g]? = some (.cells (numsV cur).toArray 45 (0, 0))) (hm : m = Nat.min sLen dLen) (hn : cs.length = m)
    (hsrc : ∀ j v, (numsV cs)[j]? = some v → w.cell? (a.add j) = some v) (hfit : o + m * 3 ≤ cur.length * 3) (hb : Below B w0 w) (hBg : B ≤ g) :
    ∃ w', (Builtin.copy_ #[dT, sT] ty #[.slice (some ⟨g, o, none⟩) dLen dCap, .slice (some a) sLen sCap]).run Try.prog w = .ok (.int .i64 (m : Int)) w' ∧
      w'.heap[g]? = some (.cells ((numsV cur).take o ++ numsV cs ++ (numsV cur).drop (o + (numsV cs).length)).toArray 45 (0, 0)) ∧ Below B w0 w' := by
  have hs : (Try.prog.info? 45).map (·.size) = some 3 := by
    obtain ⟨i, hi, hzz⟩ := Option.map_eq_some_iff.1 infoBits
    simp only [Prod.mk.injEq] at hzz
    rw [hi, ← hzz.2.1]; rfl
  have hl : (numsV cs).length = m * 3 := by rw [numsV_length, hn]
  have hrun := run_copy_cells (P := Try.prog) w dT sT ty 45 3 m g o dLen dCap a sLen sCap (numsV cur).toArray 45 (numsV cs) hu hs hg hm hl hsrc (by rw [hl]; simp [numsV_length]; exact hfit) (numsV_one_cell cs)
  exact ⟨_, hrun, setRow_heap w g _ _ _ _ hg, below_setRow hb hBg _⟩
theorem nums_src {w : World} {A : Option Addr} {n : Nat} {xs : List Num} (h : ReadsNums w A n xs) (hn : 0 < n) : ∃ b off, A = some ⟨b, off, none⟩ ∧ ∀ j v, (numsV xs)[j]? = some v → w.cell? ((⟨b, off, none⟩ : Addr).add j) = some v := by
  obtain ⟨b, off, h1, h2, h3⟩ := h.2.2 hn
  refine ⟨b, off, h1, fun j v hv => ?_⟩
  have hj : j < xs.length * 3 := by
    have := (List.getElem?_eq_some_iff.1 hv).1
    rwa [numsV_length] at this
  have hjn : j / 3 < n := by rw [← h.1]; omega
  obtain ⟨c0, c1, c2⟩ := h3 (j / 3) hjn
  obtain ⟨d0, d1, d2⟩ := numsV_get xs (j / 3) (by rw [h.1]; exact hjn)
  rw [Addr.add_lit]
  have e : j % 3 = 0 ∨ j % 3 = 1 ∨ j % 3 = 2 := by omega
  rcases e with e | e | e
  · have h4 : j = j / 3 * 3 := by omega
    rw [← h4] at d0 c0
    rw [c0]; rw [hv] at d0; injection d0 with d0; rw [d0]
  · have h4 : j = j / 3 * 3 + 1 := by omega
    rw [← h4] at d1 c1
    rw [c1]; rw [hv] at d1; injection d1 with d1; rw [d1]
  · have h4 : j = j / 3 * 3 + 2 := by omega
    rw [← h4] at d2 c2
    rw [c2]; rw [hv] at d2; injection d2 with d2; rw [d2]

/-- What lies in the row when so many are copied. -/
def repL (x : Num) (n k : Nat) : List Num := List.replicate k x ++ List.replicate (n - k) zeroNum
theorem repL_length (x : Num) (n k : Nat) (h : k ≤ n) : (repL x n k).length = n := by simp [repL]; omega
theorem repL_next (x : Num) (n k j : Nat) (h : k + j ≤ n) : (numsV (repL x n k)).take (k * 3) ++ numsV (List.replicate j x) ++ (numsV (repL x n k)).drop (k * 3 + (numsV (List.replicate j x)).length) = numsV (repL x n (k + j)) := by
  rw [numsV_length, List.length_replicate, ← Nat.add_mul, numsV_take, numsV_drop, ← numsV_append, ← numsV_append]
  congr 1
  unfold repL
  rw [List.take_append_of_le_length (by simp), List.take_of_length_le (by simp), List.drop_append, List.length_replicate]
  simp only [List.drop_replicate, List.replicate_append_replicate]
  rw [show k - (k + j) = 0 by omega, List.replicate_zero, List.nil_append, show n - k - (k + j - k) = n - (k + j) by omega]

set_option maxRecDepth 100000 in
set_option maxHeartbeats 2000000 in
theorem Repeat_any (x : Num) (A : Option Addr) (c n : Nat) (h1 : 1 ≤ n) (h2 : n ≤ 4096) (w : World) (hR : ReadsNums w A 1 [x]) :
    Calls Try.prog 19 #[.slice A 1 c, .int .i64 (n : Int)] w fun e w' => ∃ g, e = .returned (.slice (some ⟨g, 0, none⟩) n n) ∧ w.heap.size ≤ g ∧ w'.heap[g]? = some (.cells (numsV (List.replicate n x)).toArray 45 (0, 0)) ∧ Below w.heap.size w w' := by
  have HR : Aside (ReadsNums w A 1 [x]) := hR
  have hmk := makeNums n (by omega)
  have hn0 : (0 : Int) ≤ (n : Int) := by omega
  have hn4 : (n : Int) ≤ 4096 := by omega
  have hwr : IntKind.u64.wrap (n : Int) = (n : Int) := by rw [IntKind.wrap_u64]; omega
  have hd1 : decide ((n : Int) < 0) = false := decide_eq_false (by omega)
  clear hR
  go_enter Try.func19, Try.ntmps19
  go_wp2_with fail
  refine (mul_one n (by omega) _).mono ?_
  rintro e w' ⟨rfl, rfl⟩
  have hV0 : (w.alloc (.cells (madeCells #[.int .i64 0, .int .u64 0, .int .u64 0] (n * 3)) 45)).heap[w.heap.size]? = some (.cells (numsV (repL x n 0)).toArray 45 (0, 0)) := by
    rw [heap_alloc_new]
    have e : madeCells #[.int .i64 0, .int .u64 0, .int .u64 0] (n * 3) = (numsV (repL x n 0)).toArray := by
      rw [← Array.toList_inj, madeNums]
      simp [repL]
    rw [e]
  have hB0 : Below w.heap.size w (w.alloc (.cells (madeCells #[.int .i64 0, .int .u64 0, .int .u64 0] (n * 3)) 45)) := (Below.refl _ _).alloc (Nat.le_refl _) _
  obtain ⟨b, off, hA, hsrc⟩ := nums_src (HR.out.below hB0) (by decide)
  subst hA
  obtain ⟨W1, hrun, hg1, hB1⟩ := copy_nums _ w.heap.size w 30 30 3 1 w.heap.size 0 n n ⟨b, off, none⟩ 1 c (repL x n 0) [x] Try.underlying30 hV0 (by show 1 = min 1 n; omega) rfl hsrc (by rw [repL_length x n 0 (by omega)]; omega) hB0 (Nat.le_refl _)
  have hg1' : W1.heap[w.heap.size]? = some (.cells (numsV (repL x n 1)).toArray 45 (0, 0)) := by
    rw [hg1]
    have := repL_next x n 0 1 (by omega)
    rw [Nat.zero_mul, Nat.zero_add] at this
    rw [show List.replicate 1 x = [x] from rfl] at this
    rw [Nat.zero_add, this]
  clear hV0 hB0 hsrc hg1
  have hRUN : Aside _ := hrun
  generalize hgg : w.heap.size = g at *
  go_wp2
  go_loopw [8] (fun i wr => ∃ k : Nat, 1 ≤ k ∧ k ≤ n ∧ i = .int .i64 k ∧ Aside (wr.heap[g]? = some (.cells (numsV (repL x n k)).toArray 45 (0, 0))) ∧ Below g w wr) (fun i _ => n - (intOf i).toNat)
  case atStart => exact ⟨1, by omega, h1, rfl, hg1', hB1⟩
  case round =>
    obtain ⟨k, hk1, hk, rfl, hG, hB⟩ := hrel
    clear hg1' hB1 hrun hmk
    by_cases hlt : k < n
    · obtain ⟨j, hj⟩ : ∃ j, j = Nat.min k (n - k) := ⟨_, rfl⟩
      have hj1 : 1 ≤ j ∧ k + j ≤ n ∧ j ≤ k := by rw [hj]; simp only [Nat.min_def]; split <;> omega
      have hsl1 : ∀ W : World, (Instr.slice 30 (.slice (some ⟨g, 0, none⟩) n n) (some (.int .i64 (k : Int))) none none).run Try.prog W = .ok (.slice (some ⟨g, k * 3, none⟩) (n - k) (n - k)) W := by
        intro W
        rw [run_slice_l (P := Try.prog) W 30 (some ⟨g, 0, none⟩) n n (by kernel_rfl) .i64 (k : Int) (by omega) (by omega)]
        have hsz : (sizeOf (Try.prog.elem 30)).run Try.prog W = .ok 3 W := by kernel_rfl
        rw [hsz]
        have hne : ¬ n = k := by omega
        simp [sliced, Result.andThen, hne, Addr.add_lit]
      have hsl2 : ∀ W : World, (Instr.slice 30 (.slice (some ⟨g, 0, none⟩) n n) none (some (.int .i64 (k : Int))) none).run Try.prog W = .ok (.slice (some ⟨g, 0, none⟩) k n) W := by
        intro W
        rw [run_slice_h (P := Try.prog) W 30 (some ⟨g, 0, none⟩) n n (by kernel_rfl) .i64 (k : Int) (by omega) (by omega)]
        have hsz : (sizeOf (Try.prog.elem 30)).run Try.prog W = .ok 3 W := by kernel_rfl
        rw [hsz]
        simp [sliced, Result.andThen, Addr.add_lit]
      have hsrc2 : ∀ i v, (numsV (List.replicate j x))[i]? = some v → wr.drew.cell? ((⟨g, 0, none⟩ : Addr).add i) = some v := by
        intro i v hv
        have hi := (List.getElem?_eq_some_iff.1 hv).1
        rw [numsV_length, List.length_replicate] at hi
        rw [Addr.add_lit, Nat.zero_add, show wr.drew.cell? ⟨g, i, none⟩ = wr.cell? ⟨g, i, none⟩ from rfl, cellOf hG.out i]
        have e : repL x n k = List.replicate j x ++ (List.replicate (k - j) x ++ List.replicate (n - k) zeroNum) := by
          unfold repL
          rw [← List.append_assoc, List.replicate_append_replicate, show j + (k - j) = k by omega]
        rw [e, numsV_append, List.getElem?_toArray, List.getElem?_append_left (by rw [numsV_length, List.length_replicate]; exact hi)]
        exact hv
      obtain ⟨W2, hrun2, hg2, hB2⟩ := copy_nums wr.drew g w 30 30 3 j g (k * 3) (n - k) (n - k) ⟨g, 0, none⟩ k n (repL x n k) (List.replicate j x) Try.underlying30 hG.out hj (by simp) hsrc2 (by rw [repL_length x n k hk]; omega) hB.drew (Nat.le_refl _)
      rw [repL_next x n k j hj1.2.1] at hg2
      have HG2 : Aside (W2.heap[g]? = some (.cells (numsV (repL x n (k + j))).toArray 45 (0, 0))) := hg2
      have hkj : (k : Int) + (j : Int) ≤ 4096 := by omega
      have hkn : (k : Int) < (n : Int) := by omega
      have hk0 : (0 : Int) ≤ (k : Int) := by omega
      clear hsrc2 hg2 hG hj
      go_wp2_with fail
      go_region
      go_wp2
      go_roundw
      case rel => exact ⟨k + j, by omega, hj1.2.1, by go_num, HG2.out, hB2⟩
      case measure => (simp [intOf]; omega)
    · obtain rfl : k = n := by omega
      go_wp2
      go_ret
      have e : repL x k k = List.replicate k x := by simp [repL]
      have h := hG.out
      rw [e] at h
      exact ⟨g, rfl, by omega, h, by rw [hgg]; exact hB⟩
end Go.Proofs.Ytanimonhnngfkaa.Own

/- cells.New, of counters and meters. -/
set_option linter.unusedVariables false
set_option linter.unusedSimpArgs false
namespace Go.Proofs.Ytanimonhnngfkaa.Own
open Go.RowKit

/-- A declaration of counters or meters. -/
structure Dec where
  kd : Int
  nm : ByteArray
  N : Nat
  Rate : Int
  Burst : Int
def zeroDec : Dec := ⟨0, ⟨#[]⟩, 0, 0, 0⟩
instance : Inhabited Dec := ⟨zeroDec⟩
def Dec.cells (d : Dec) : List Value := [.int .u8 d.kd, .string d.nm, .slice none 0 0, .int .i64 0, .int .i64 (d.N : Int), .int .i64 d.Rate, .int .i64 d.Burst, .slice none 0 0, .slice none 0 0, .slice none 0 0, .string ⟨#[]⟩, .slice none 0 0, .slice none 0 0, .slice none 0 0, .int .i64 0]
def Dec.ok (d : Dec) : Prop := (1 ≤ d.N ∧ d.N ≤ 4096) ∧ ((d.kd = 4) ∨ (d.kd = 5 ∧ 0 ≤ d.Rate ∧ d.Rate ≤ 65535 ∧ 1 ≤ d.Burst ∧ d.Burst ≤ 65535))
/-- The array of a declaration. -/
def Dec.arr (d : Dec) : Arr :=
  if d.kd = 5 then ⟨d.nm, 5, 64, d.Rate, d.Burst, List.replicate d.N ⟨64, 0, d.Burst⟩, List.replicate d.N 0⟩ else ⟨d.nm, 4, 64, 0, 0, List.replicate d.N ⟨64, 0, 0⟩, []⟩
theorem getD_replicate {α : Type} (x z : α) (n j : Nat) (h : j < n) : (List.replicate n x).getD j z = x := by
  rw [List.getD_eq_getElem?_getD, List.getElem?_eq_getElem (by rw [List.length_replicate]; exact h)]
  simp
theorem num64_ok (x : Int) (h0 : 0 ≤ x) (h1 : x ≤ 18446744073709551615) : (⟨64, 0, x⟩ : Num).wf ∧ (⟨64, 0, x⟩ : Num).ok := by
  refine ⟨⟨⟨by show (-9223372036854775808:Int) ≤ 64; omega, by show (64:Int) ≤ 9223372036854775807; omega⟩, ⟨by show (0:Int) ≤ 0; omega, by show (0:Int) ≤ 18446744073709551615; omega⟩, h0, h1⟩, by show (1:Int) ≤ 64; omega, by show (64:Int) ≤ 128; omega, ?_, ?_⟩
  · show (0:Int) = cutHi 64 0
    rfl
  · show x = cutLo 64 x
    unfold cutLo
    rw [if_neg (by omega)]
theorem Dec.arr_ok (d : Dec) (h : d.ok) : d.arr.ok := by
  obtain ⟨⟨h1, h2⟩, h3⟩ := h
  unfold Dec.arr
  rcases h3 with h3 | ⟨h3, r0, r1, b0, b1⟩
  · rw [if_neg (by omega)]
    have hn := num64_ok 0 (by decide) (by decide)
    exact ⟨.inr (.inl rfl), ⟨fun _ => ⟨rfl, rfl, rfl⟩, fun h => by simp at h, fun _ => rfl, fun h => by simp at h⟩, by simp; omega, fun j hj => by
      simp only [List.length_replicate] at hj
      show ((List.replicate d.N (⟨64, 0, 0⟩ : Num)).getD j zeroNum).wf ∧ _
      rw [getD_replicate _ _ _ _ hj]
      exact ⟨hn.1, hn.2, rfl, fun h => by simp at h⟩, fun j hj => by simp at hj⟩
  · rw [if_pos h3]
    have hn := num64_ok d.Burst (by omega) (by omega)
    exact ⟨.inr (.inr rfl), ⟨fun h => absurd rfl h, fun h => by simp at h, fun _ => rfl, fun _ => ⟨r0, r1, b0, b1, by simp⟩⟩, by simp; omega, fun j hj => by
      simp only [List.length_replicate] at hj
      show ((List.replicate d.N (⟨64, 0, d.Burst⟩ : Num)).getD j zeroNum).wf ∧ _
      rw [getD_replicate _ _ _ _ hj]
      exact ⟨hn.1, hn.2, rfl, fun _ => Int.le_refl _⟩, fun j hj => by
      simp only [List.length_replicate] at hj
      show 0 ≤ (List.replicate d.N (0 : Int)).getD j 0
      rw [getD_replicate _ _ _ _ hj]
      omega⟩

theorem infoArr : (Try.prog.info? 38).map (fun i => (i.zero, i.size, i.bytes)) = some (some (.agg #[.string ⟨#[]⟩, .int .u8 0, .int .i64 0, .int .i64 0, .int .i64 0, .slice none 0 0, .slice none 0 0]), 7, 96) := by kernel_rfl
/-- An array's cells: its rows are blocks of the call's own, apart from one. -/
def ArrAt (V : World) (base : Nat) (own : Option Nat) (vs : List Value) (a : Arr) : Prop :=
  ∃ g B, vs = (a.vals (some ⟨g, 0, none⟩) a.cs.length a.cs.length B a.ls.length a.ls.length).toList ∧ base ≤ g ∧ some g ≠ own ∧ V.heap[g]? = some (.cells (numsV a.cs).toArray 45 (0, 0)) ∧
    ((B = none ∧ a.ls.length = 0) ∨ ∃ b, B = some ⟨b, 0, none⟩ ∧ base ≤ b ∧ some b ≠ own ∧ V.heap[b]? = some (.cells (nums .i64 a.ls).toArray 3 (0, 0)))
theorem ArrAt.grown {V V' : World} {base : Nat} {own own' : Option Nat} {vs : List Value} {a : Arr} (h : ArrAt V base own vs a) (hg : V.grownBy V' own) (ho : own' = own ∨ own' = some V.heap.size) : ArrAt V' base own' vs a := by
  obtain ⟨g, B, h1, h2, h3, h4, h5⟩ := h
  have key : ∀ q o, some q ≠ own → V.heap[q]? = some o → some q ≠ own' ∧ V'.heap[q]? = some o := by
    intro q o hq hh
    have hlt := (Array.getElem?_eq_some_iff.1 hh).1
    refine ⟨?_, (hg.block q hlt hq).trans hh⟩
    rcases ho with ho | ho
    · rw [ho]; exact hq
    · rw [ho]; intro e; injection e with e; omega
  have kg := key g _ h3 h4
  refine ⟨g, B, h1, h2, kg.1, kg.2, ?_⟩
  rcases h5 with h5 | ⟨b, b1, b2, b3, b4⟩
  · exact .inl h5
  · have kb := key b _ b3 b4
    exact .inr ⟨b, b1, b2, kb.1, kb.2⟩
theorem ArrAt.below {V V' : World} {base : Nat} {own : Option Nat} {vs : List Value} {a : Arr} (h : ArrAt V base own vs a) (hb : Below V.heap.size V V') : ArrAt V' base own vs a := by
  obtain ⟨g, B, h1, h2, h3, h4, h5⟩ := h
  refine ⟨g, B, h1, h2, h3, (hb.block _ (Array.getElem?_eq_some_iff.1 h4).1).trans h4, ?_⟩
  rcases h5 with h5 | ⟨b, b1, b2, b3, b4⟩
  · exact .inl h5
  · exact .inr ⟨b, b1, b2, b3, (hb.block _ (Array.getElem?_eq_some_iff.1 b4).1).trans b4⟩
def zeroArr : Arr := ⟨⟨#[]⟩, 0, 0, 0, 0, [], []⟩
/-- Arrays in a row of the call's own. -/
def ArrsAt (V : World) (base : Nat) (v : Value) (ars : List Arr) : Prop :=
  ∃ vss : List (List Value), vss.length = ars.length ∧ (∀ j, j < ars.length → ArrAt V base v.ownBlock (vss.getD j []) (ars.getD j zeroArr)) ∧ V.ownsRow base 38 7 v ars.length vss.flatten
theorem ArrsAt.nil (V : World) (base : Nat) : ArrsAt V base (.slice none 0 0) [] := ⟨[], rfl, fun j hj => by simp at hj, World.ownsRow_nil _ _ _ _⟩
theorem ArrsAt.below {V V' : World} {base : Nat} {v : Value} {ars : List Arr} (h : ArrsAt V base v ars) (hb : Below V.heap.size V V') : ArrsAt V' base v ars := by
  obtain ⟨vss, h1, h2, h3⟩ := h
  exact ⟨vss, h1, fun j hj => (h2 j hj).below hb, own_keep h3 hb⟩
theorem getD_app_left {α : Type} (l r : List α) (z : α) (j : Nat) (h : j < l.length) : (l ++ r).getD j z = l.getD j z := by
  rw [List.getD_eq_getElem?_getD, List.getD_eq_getElem?_getD, List.getElem?_append_left h]
theorem ArrsAt.app {V V' : World} {base : Nat} {v v1 : Value} {ars : List Arr} {vss : List (List Value)} {vs : List Value} {a : Arr} (h1 : vss.length = ars.length) (h2 : ∀ j, j < ars.length → ArrAt V base v.ownBlock (vss.getD j []) (ars.getD j zeroArr))
    (hv : ArrAt V base v.ownBlock vs a) (hown : V'.ownsRow base 38 7 v1 (ars.length + 1) (vss.flatten ++ vs)) (hg : V.grownBy V' v.ownBlock) (ho : v1.ownBlock = v.ownBlock ∨ v1.ownBlock = some V.heap.size) : ArrsAt V' base v1 (ars ++ [a]) := by
  refine ⟨vss ++ [vs], by simp [h1], fun j hj => ?_, by simpa using hown⟩
  rcases Nat.lt_or_ge j ars.length with h | h
  · rw [getD_app_left vss [vs] [] j (by omega), getD_app_left ars [a] zeroArr j h]
    exact (h2 j h).grown hg ho
  · obtain rfl : j = ars.length := by simp at hj; omega
    rw [show (vss ++ [vs]).getD ars.length [] = vs by rw [← h1]; simp, show (ars ++ [a]).getD ars.length zeroArr = a by simp]
    exact hv.grown hg ho

theorem readsOne {V : World} {g : Nat} {x : Num} (h : V.heap[g]? = some (.cells #[.int .i64 x.W, .int .u64 x.Hi, .int .u64 x.Lo] 45 (0, 0))) : ReadsNums V (some ⟨g, 0, none⟩) 1 [x] := by
  refine ⟨rfl, by omega, fun _ => ⟨g, 0, rfl, (Array.getElem?_eq_some_iff.1 h).1, fun j hj => ?_⟩⟩
  obtain rfl : j = 0 := by omega
  exact ⟨cellOf h 0, cellOf h 1, cellOf h 2⟩
theorem heapLit (w : World) (cs : Array Value) (t : TypeId) (i : Nat) (h : i = w.heap.size) : (w.alloc (.cells cs t)).heap[i]? = some (.cells cs t (0, 0)) := by
  subst h; exact heap_alloc_new _ _
theorem sizeLit (w : World) (o : Obj) : (w.alloc o).heap.size = w.heap.size + 1 := Array.size_push _
theorem heapOld (w : World) (o o' : Obj) (i : Nat) (h : w.heap[i]? = some o') : (w.alloc o).heap[i]? = some o' := (Below.heap_alloc w o i (Array.getElem?_eq_some_iff.1 h).1).trans h
theorem setOther {w : World} {p : Addr} {v : Value} {i : Nat} {o : Obj} (h : w.heap[i]? = some o) (hne : p.block ≠ i) : (w.setCell p v).heap[i]? = some o := by
  simp [World.setCell, Array.getElem?_modify, h, hne]
theorem readsNums_at {V : World} {g : Nat} {xs : List Num} (h : V.heap[g]? = some (.cells (numsV xs).toArray 45 (0, 0))) (hm : xs.length ≤ 9223372036854775807) : ReadsNums V (some ⟨g, 0, none⟩) xs.length xs := by
  refine ⟨rfl, hm, fun _ => ⟨g, 0, rfl, (Array.getElem?_eq_some_iff.1 h).1, fun j hj => ?_⟩⟩
  obtain ⟨c0, c1, c2⟩ := numsV_get xs j hj
  have k := fun i => cellOf h i
  rw [Nat.zero_add, Nat.zero_add, Nat.zero_add]
  exact ⟨(k _).trans (by rw [List.getElem?_toArray]; exact c0), (k _).trans (by rw [List.getElem?_toArray]; exact c1), (k _).trans (by rw [List.getElem?_toArray]; exact c2)⟩
theorem reads_at {V : World} {g t : Nat} {xs : List Int} (h : V.heap[g]? = some (.cells (nums .i64 xs).toArray t (0, 0))) (hm : xs.length ≤ 9223372036854775807) : Reads V .i64 (some ⟨g, 0, none⟩) xs.length xs := by
  refine ⟨rfl, hm, fun _ => ⟨_, rfl, fun j hj => ?_⟩⟩
  rw [add_plain, cellOf h j]
  simp [nums, hj]
/-- What New knows of a round, ahead of its append. -/
structure NR (w : World) (v : Value) (ars : List Arr) (a : Arr) (p g : Nat) (B : Option Addr) (W : World) : Prop where
  below : Below w.heap.size w W
  row : ArrsAt W w.heap.size v ars
  pos : w.heap.size ≤ p ∧ w.heap.size ≤ g ∧ some g ≠ v.ownBlock
  box : W.heap[p]? = some (.cells (a.vals (some ⟨g, 0, none⟩) a.cs.length a.cs.length B a.ls.length a.ls.length) 63 (0, 0))
  cs : W.heap[g]? = some (.cells (numsV a.cs).toArray 45 (0, 0))
  ls : (B = none ∧ a.ls.length = 0) ∨ ∃ b, B = some ⟨b, 0, none⟩ ∧ w.heap.size ≤ b ∧ some b ≠ v.ownBlock ∧ W.heap[b]? = some (.cells (nums .i64 a.ls).toArray 3 (0, 0))
theorem NR.next {w : World} {v : Value} {ars : List Arr} {a : Arr} {p g : Nat} {B : Option Addr} {W W' : World} (h : NR w v ars a p g B W) (hb : Below W.heap.size W W') : NR w v ars a p g B W' := by
  refine ⟨h.below.trans (hb.mono h.below.size), h.row.below hb, h.pos, (hb.block _ (Array.getElem?_eq_some_iff.1 h.box).1).trans h.box, (hb.block _ (Array.getElem?_eq_some_iff.1 h.cs).1).trans h.cs, ?_⟩
  rcases h.ls with h5 | ⟨b, b1, b2, b3, b4⟩
  · exact .inl h5
  · exact .inr ⟨b, b1, b2, b3, (hb.block _ (Array.getElem?_eq_some_iff.1 b4).1).trans b4⟩
theorem NR.may {w : World} {v : Value} {ars : List Arr} {a : Arr} {p g : Nat} {B : Option Addr} {W : World} (h : NR w v ars a p g B W) (ho : a.ok) : Calls Try.prog 20 #[.pointer (some ⟨p, 0, none⟩)] W fun e w' => e = .returned (.bool true) ∧ Below W.heap.size W w' := by
  have hl := ho.len
  have hml : a.ls.length ≤ 4096 := by
    have := ho.scal
    rcases ho.kd with k | k | k
    · rw [(this.1 (by omega)).2.2]; simp
    · rw [(this.1 (by omega)).2.2]; simp
    · have := (this.2.2.2 k).2.2.2.2; omega
  refine may_ok a ho _ _ _ _ _ _ p W (readsNums_at h.cs (by omega)) ?_ h.box
  rcases h.ls with ⟨rfl, h0⟩ | ⟨b, rfl, b2, b3, b4⟩
  · have : a.ls = [] := List.eq_nil_of_length_eq_zero h0
    rw [this]; exact Reads.nil _ _
  · exact reads_at b4 (by omega)
theorem NR.cells {w : World} {v : Value} {ars : List Arr} {a : Arr} {p g : Nat} {B : Option Addr} {W : World} (h : NR w v ars a p g B W) : (W.cell? ⟨p, 0, none⟩ = some (.string a.nm) ∧ W.cell? ⟨p, 1, none⟩ = some (.int .u8 a.kd) ∧ W.cell? ⟨p, 2, none⟩ = some (.int .i64 a.W)) ∧ W.cell? ⟨p, 3, none⟩ = some (.int .i64 a.Rate) ∧ W.cell? ⟨p, 4, none⟩ = some (.int .i64 a.Burst) ∧ W.cell? ⟨p, 5, none⟩ = some (.slice (some ⟨g, 0, none⟩) a.cs.length a.cs.length) ∧ W.cell? ⟨p, 6, none⟩ = some (.slice B a.ls.length a.ls.length) :=
  ⟨⟨cellOf h.box 0, cellOf h.box 1, cellOf h.box 2⟩, cellOf h.box 3, cellOf h.box 4, cellOf h.box 5, cellOf h.box 6⟩
theorem NR.app {w : World} {v v1 : Value} {ars : List Arr} {a : Arr} {p g : Nat} {B : Option Addr} {W W' : World} {vss : List (List Value)} {vs : List Value} (h : NR w v ars a p g B W) (h1 : vss.length = ars.length) (h2 : ∀ j, j < ars.length → ArrAt W w.heap.size v.ownBlock (vss.getD j []) (ars.getD j zeroArr))
    (hrow : W.ownsRow w.heap.size 38 7 v ars.length vss.flatten)
    (hown : W'.ownsRow w.heap.size 38 7 v1 (ars.length + 1) (vss.flatten ++ vs)) (hvs : vs = (a.vals (some ⟨g, 0, none⟩) a.cs.length a.cs.length B a.ls.length a.ls.length).toList) (hg : W.grownBy W' v.ownBlock) (ho : v1.ownBlock = v.ownBlock ∨ v1.ownBlock = some W.heap.size) :
    ArrsAt W' w.heap.size v1 (ars ++ [a]) ∧ Below w.heap.size w W' := by
  subst hvs
  refine ⟨ArrsAt.app h1 h2 ⟨g, B, rfl, h.pos.2.1, h.pos.2.2, h.cs, h.ls⟩ hown hg ho, h.below.trans (own_grown hrow hg h.below.size)⟩

theorem NR.begin {w wr W0 w1 : World} {v : Value} {ars : List Arr} {a : Arr} {g N : Nat} {B : Option Addr} {cs : Array Value} (hB : Below w.heap.size w wr) (hA : ArrsAt wr w.heap.size v ars) (hbl : Below wr.heap.size wr W0) (hp0 : W0.heap[wr.heap.size + 1]? = some (.cells cs 63 (0, 0))) (hs0 : wr.heap.size + 2 ≤ W0.heap.size)
    (hg0 : W0.heap.size ≤ g) (hg1 : w1.heap[g]? = some (.cells (numsV a.cs).toArray 45 (0, 0))) (hb1 : Below W0.heap.size W0 w1) (hN : a.cs.length = N) (hcs : cs.setIfInBounds 5 (.slice (some ⟨g, 0, none⟩) N N) = a.vals (some ⟨g, 0, none⟩) a.cs.length a.cs.length B a.ls.length a.ls.length)
    (hls : (B = none ∧ a.ls.length = 0) ∨ ∃ b, B = some ⟨b, 0, none⟩ ∧ wr.heap.size ≤ b ∧ b ≠ wr.heap.size + 1 ∧ W0.heap[b]? = some (.cells (nums .i64 a.ls).toArray 3 (0, 0))) :
    NR w v ars a (wr.heap.size + 1) g B (w1.setCell ⟨wr.heap.size + 1, 5, none⟩ (.slice (some ⟨g, 0, none⟩) N N)) := by
  have hp1 := (hb1.block _ (Array.getElem?_eq_some_iff.1 hp0).1).trans hp0
  have hown : ∀ q, v.ownBlock = some q → q < wr.heap.size := by
    obtain ⟨vss, _, _, h3⟩ := hA
    exact fun q hq => (h3.lt q hq).2
  have hw : Below wr.heap.size wr (w1.setCell ⟨wr.heap.size + 1, 5, none⟩ (.slice (some ⟨g, 0, none⟩) N N)) := (hbl.trans (hb1.mono hbl.size)).setCell (by show wr.heap.size ≤ wr.heap.size + 1; omega) _
  have hsz := hB.size
  have hsz2 := hbl.size
  refine ⟨hB.trans (hw.mono hB.size), hA.below hw, ⟨by omega, by omega, fun e => by have := hown g e.symm; omega⟩, (setCell_heap hp1 5 _).trans (by rw [hcs]), setOther hg1 (by show wr.heap.size + 1 ≠ g; omega), ?_⟩
  rcases hls with h5 | ⟨b, b1, b2, b3, b4⟩
  · exact .inl h5
  · exact .inr ⟨b, b1, by omega, fun e => by have := hown b e.symm; omega, setOther ((hb1.block _ (Array.getElem?_eq_some_iff.1 b4).1).trans b4) (by show wr.heap.size + 1 ≠ b; omega)⟩
theorem take_arr (ds : List Dec) (k : Nat) (d : Dec) (h : k < ds.length) (hd : ds.getD k zeroDec = d) : (ds.take (k + 1)).map Dec.arr = (ds.take k).map Dec.arr ++ [d.arr] := by
  rw [List.take_add_one, List.map_append]
  congr 1
  rw [List.getElem?_eq_getElem h]
  rw [List.getD_eq_getElem?_getD, List.getElem?_eq_getElem h] at hd
  simp at hd
  simp [hd]

theorem infoI64 : (Try.prog.info? 3).map (fun i => (i.zero, i.size, i.bytes)) = some (some (.int .i64 0), 1, 8) := by kernel_rfl
theorem madeI64 (m : Nat) : madeCells #[.int .i64 0] (m * 1) = (nums .i64 (List.replicate m 0)).toArray := by
  have : (madeCells #[.int .i64 0] (m * 1)).toList = nums .i64 (List.replicate m 0) := by
    unfold nums
    rw [madeCells, List.map_replicate, Nat.mul_one, Array.toList_map, Array.toList_range, List.eq_replicate_iff]
    refine ⟨by simp, fun b hb => ?_⟩
    obtain ⟨i, _, rfl⟩ := List.mem_map.1 hb
    simp [Nat.mod_one]
  rw [← this]
theorem makeInts (m : Nat) (h : m ≤ 1048576) : ∀ W : World, (Instr.makeSlice 36 (.int .i64 (m : Int)) (.int .i64 (m : Int))).run Try.prog W = .ok (.slice (some ⟨W.heap.size, 0, none⟩) m m) (W.alloc (.cells (nums .i64 (List.replicate m 0)).toArray 3)) := by
  intro W
  obtain ⟨i, hi, hzz⟩ := Option.map_eq_some_iff.1 infoI64
  simp only [Prod.mk.injEq] at hzz
  obtain ⟨hz, hs, hb⟩ := hzz
  have := run_make (P := Try.prog) W 36 3 i _ Try.underlying36 hi hz .i64 .i64 m m (by omega) (by omega) (by rw [hb]; omega) (by omega)
  rw [hs] at this
  rw [this, Int.toNat_natCast, show (Value.int .i64 0).cells = #[.int .i64 0] from rfl, madeI64]

/-- The call of Repeat behind the array's box, the cell and the cell's row. -/
theorem Repeat_four (w : World) (c1 c2 c3 : Array Value) (t1 t2 t3 : TypeId) (x : Num) (N : Nat) (h1 : 1 ≤ N) (h2 : N ≤ 4096) (K : Ending → World → Prop)
    (h : ∀ (W0 : World) (g : Nat) (w1 : World), (W0.heap[w.heap.size + 1]? = some (.cells c2 t2 (0, 0)) ∧ Below w.heap.size w W0 ∧ W0.heap.size = w.heap.size + 4) → W0.heap.size ≤ g → w1.heap[g]? = some (.cells (numsV (List.replicate N x)).toArray 45 (0, 0)) → Below W0.heap.size W0 w1 → K (.returned (.slice (some ⟨g, 0, none⟩) N N)) w1) :
    Calls Try.prog 19 #[.slice (some ⟨w.heap.size + 1 + 1 + 1, 0, none⟩) 1 1, .int .i64 (N : Int)] ((((w.alloc (.cells c1 t1)).alloc (.cells c2 t2)).alloc (.cells c3 t3)).alloc (.cells #[.int .i64 x.W, .int .u64 x.Hi, .int .u64 x.Lo] 45)) K := by
  have s1 := sizeLit w (.cells c1 t1)
  have s2 := sizeLit (w.alloc (.cells c1 t1)) (.cells c2 t2)
  have s3 := sizeLit ((w.alloc (.cells c1 t1)).alloc (.cells c2 t2)) (.cells c3 t3)
  have s4 := sizeLit (((w.alloc (.cells c1 t1)).alloc (.cells c2 t2)).alloc (.cells c3 t3)) (.cells #[.int .i64 x.W, .int .u64 x.Hi, .int .u64 x.Lo] 45)
  have hr := readsOne (heapLit (((w.alloc (.cells c1 t1)).alloc (.cells c2 t2)).alloc (.cells c3 t3)) #[.int .i64 x.W, .int .u64 x.Hi, .int .u64 x.Lo] 45 (w.heap.size + 1 + 1 + 1) (by omega))
  have hp := heapOld _ (.cells #[.int .i64 x.W, .int .u64 x.Hi, .int .u64 x.Lo] 45) _ _ (heapOld _ (.cells c3 t3) _ _ (heapLit (w.alloc (.cells c1 t1)) c2 t2 (w.heap.size + 1) (by omega)))
  have hb : Below w.heap.size w ((((w.alloc (.cells c1 t1)).alloc (.cells c2 t2)).alloc (.cells c3 t3)).alloc (.cells #[.int .i64 x.W, .int .u64 x.Hi, .int .u64 x.Lo] 45)) := ((((Below.refl _ _).alloc (Nat.le_refl _) _).alloc (by omega) _).alloc (by omega) _).alloc (by omega) _
  refine Calls.mono (Repeat_any x _ 1 N h1 h2 _ hr) ?_
  rintro e w1 ⟨g, rfl, hg0, hg1, hb1⟩
  exact h _ g w1 ⟨hp, hb, by omega⟩ hg0 hg1 hb1
theorem Repeat_five (w : World) (c1 c2 c3 c4 : Array Value) (t1 t2 t3 t4 : TypeId) (x : Num) (N : Nat) (h1 : 1 ≤ N) (h2 : N ≤ 4096) (K : Ending → World → Prop)
    (h : ∀ (W0 : World) (g : Nat) (w1 : World), (W0.heap[w.heap.size + 1]? = some (.cells c2 t2 (0, 0)) ∧ Below w.heap.size w W0 ∧ W0.heap.size = w.heap.size + 5 ∧ W0.heap[w.heap.size + 1 + 1 + 1]? = some (.cells c4 t4 (0, 0))) → W0.heap.size ≤ g → w1.heap[g]? = some (.cells (numsV (List.replicate N x)).toArray 45 (0, 0)) → Below W0.heap.size W0 w1 → K (.returned (.slice (some ⟨g, 0, none⟩) N N)) w1) :
    Calls Try.prog 19 #[.slice (some ⟨w.heap.size + 1 + 1 + 1 + 1, 0, none⟩) 1 1, .int .i64 (N : Int)] (((((w.alloc (.cells c1 t1)).alloc (.cells c2 t2)).alloc (.cells c3 t3)).alloc (.cells c4 t4)).alloc (.cells #[.int .i64 x.W, .int .u64 x.Hi, .int .u64 x.Lo] 45)).drew K := by
  have s1 := sizeLit w (.cells c1 t1)
  have s2 := sizeLit (w.alloc (.cells c1 t1)) (.cells c2 t2)
  have s3 := sizeLit ((w.alloc (.cells c1 t1)).alloc (.cells c2 t2)) (.cells c3 t3)
  have s4 := sizeLit (((w.alloc (.cells c1 t1)).alloc (.cells c2 t2)).alloc (.cells c3 t3)) (.cells c4 t4)
  have s5 := sizeLit ((((w.alloc (.cells c1 t1)).alloc (.cells c2 t2)).alloc (.cells c3 t3)).alloc (.cells c4 t4)) (.cells #[.int .i64 x.W, .int .u64 x.Hi, .int .u64 x.Lo] 45)
  have hr := readsOne (heapLit ((((w.alloc (.cells c1 t1)).alloc (.cells c2 t2)).alloc (.cells c3 t3)).alloc (.cells c4 t4)) #[.int .i64 x.W, .int .u64 x.Hi, .int .u64 x.Lo] 45 (w.heap.size + 1 + 1 + 1 + 1) (by omega))
  have hp := heapOld _ (.cells #[.int .i64 x.W, .int .u64 x.Hi, .int .u64 x.Lo] 45) _ _ (heapOld _ (.cells c4 t4) _ _ (heapOld _ (.cells c3 t3) _ _ (heapLit (w.alloc (.cells c1 t1)) c2 t2 (w.heap.size + 1) (by omega))))
  have hq := heapOld _ (.cells #[.int .i64 x.W, .int .u64 x.Hi, .int .u64 x.Lo] 45) _ _ (heapLit (((w.alloc (.cells c1 t1)).alloc (.cells c2 t2)).alloc (.cells c3 t3)) c4 t4 (w.heap.size + 1 + 1 + 1) (by omega))
  have hb : Below w.heap.size w (((((w.alloc (.cells c1 t1)).alloc (.cells c2 t2)).alloc (.cells c3 t3)).alloc (.cells c4 t4)).alloc (.cells #[.int .i64 x.W, .int .u64 x.Hi, .int .u64 x.Lo] 45)).drew := ((((((Below.refl _ _).alloc (Nat.le_refl _) _).alloc (by omega) _).alloc (by omega) _).alloc (by omega) _).alloc (by omega) _).drew
  refine Calls.mono (Repeat_any x _ 1 N h1 h2 _ (hr.below (Below.refl _ _).drew)) ?_
  rintro e w1 ⟨g, rfl, hg0, hg1, hb1⟩
  exact h (((((w.alloc (.cells c1 t1)).alloc (.cells c2 t2)).alloc (.cells c3 t3)).alloc (.cells c4 t4)).alloc (.cells #[.int .i64 x.W, .int .u64 x.Hi, .int .u64 x.Lo] 45)).drew g w1 ⟨hp, hb, s5.trans (by omega), hq⟩ hg0 hg1 hb1
set_option maxRecDepth 100000 in
set_option maxHeartbeats 4000000 in
theorem New_any (ds : List Dec) (q n c : Nat) (w : World) (hl : ds.length = n) (hn : n ≤ 100) (hok : ∀ j, j < n → (ds.getD j zeroDec).ok)
    (hq : ∀ j i, j < n → i < 15 → w.cell? ⟨q, j * 15 + i, none⟩ = (ds.getD j zeroDec).cells[i]? ) (hqb : q < w.heap.size) :
    Calls Try.prog 8 #[.slice (some ⟨q, 0, none⟩) n c] w fun e w' => ∃ v, e = .returned v ∧ ArrsAt w' w.heap.size v (ds.map Dec.arr) ∧ Below w.heap.size w w' := by
  have HQ : Aside (∀ j i, j < n → i < 15 → w.cell? ⟨q, j * 15 + i, none⟩ = (ds.getD j zeroDec).cells[i]?) := hq
  have HO : Aside (∀ j, j < n → (ds.getD j zeroDec).ok) := hok
  have HL : Aside (ds.length = n) := hl
  clear hq hok hl
  go_enter Try.func8, Try.ntmps8
  go_wp2
  go_loopw [2, 9] (fun v i wr => ∃ k : Nat, k ≤ n ∧ i = .int .i64 k ∧ Aside (ArrsAt wr w.heap.size v ((ds.take k).map Dec.arr)) ∧ Below w.heap.size w wr) (fun _ i _ => n - (intOf i).toNat)
  case atStart => exact ⟨0, Nat.zero_le _, rfl, ArrsAt.nil _ _, Below.refl _ _⟩
  case round =>
    obtain ⟨k, hk, rfl, hA, hB⟩ := hrel
    by_cases hlt : k < n
    · have hd := HO.out k hlt
      have hcell : ∀ i v, (ds.getD k zeroDec).cells[i]? = some v → wr.cell? ⟨q, k * 15 + i, none⟩ = some v := fun i v hv => (hB.cell (p := ⟨_, _, _⟩) hqb).trans ((HQ.out k i hlt (List.getElem?_eq_some_iff.1 hv).1).trans hv)
      generalize hdk : ds.getD k zeroDec = dk at *
      have HDK : Aside (ds.getD k zeroDec = dk) := hdk
      clear hdk
      obtain ⟨kd, nm, N, Rate, Burst⟩ := dk
      have q0 := hcell 0 _ rfl
      have q1 := hcell 1 _ rfl
      have q2 := hcell 2 _ rfl
      have q3 := hcell 3 _ rfl
      have q4 := hcell 4 _ rfl
      have q5 := hcell 5 _ rfl
      have q6 := hcell 6 _ rfl
      have q7 := hcell 7 _ rfl
      have q8 := hcell 8 _ rfl
      have q9 := hcell 9 _ rfl
      have q10 := hcell 10 _ rfl
      have q11 := hcell 11 _ rfl
      have q12 := hcell 12 _ rfl
      have q13 := hcell 13 _ rfl
      have q14 := hcell 14 _ rfl
      simp only [Nat.add_zero] at q0 q1 q2 q3 q4 q5 q6 q7 q8 q9 q10 q11 q12 q13 q14
      have hk0 : (0 : Int) ≤ (k : Int) := by omega
      have hk1 : (k : Int) < (n : Int) := by omega
      obtain ⟨⟨n1, n2⟩, hkd⟩ := hd
      simp only at n1 n2 hkd
      have e1 : decide ((N : Int) < 1) = false := decide_eq_false (by omega)
      have e2 : decide (4096 < (N : Int)) = false := decide_eq_false (by omega)
      clear hcell
      rcases hkd with hkd | ⟨hkd, r0, r1, b0, b1⟩
      · subst hkd
        go_wp2_with fail
        refine Repeat_four wr _ _ _ 33 63 45 ⟨64, 0, 0⟩ N n1 n2 _ ?_
        rintro W0 g w1 ⟨hp0, hbl, hs0⟩ hg0 hg1 hb1
        obtain ⟨c0, c1, c2, c3, c4, c5, c6⟩ : (w1.cell? ⟨wr.heap.size + 1, 0, none⟩ = some (.string nm)) ∧ w1.cell? ⟨wr.heap.size + 1, 1, none⟩ = some (.int .u8 4) ∧ w1.cell? ⟨wr.heap.size + 1, 2, none⟩ = some (.int .i64 64) ∧ w1.cell? ⟨wr.heap.size + 1, 3, none⟩ = some (.int .i64 0) ∧ w1.cell? ⟨wr.heap.size + 1, 4, none⟩ = some (.int .i64 0) ∧ w1.cell? ⟨wr.heap.size + 1, 5, none⟩ = some (.slice none 0 0) ∧ w1.cell? ⟨wr.heap.size + 1, 6, none⟩ = some (.slice none 0 0) := by
          have hp1 := (hb1.block _ (Array.getElem?_eq_some_iff.1 hp0).1).trans hp0
          exact ⟨cellOf hp1 0, cellOf hp1 1, cellOf hp1 2, cellOf hp1 3, cellOf hp1 4, cellOf hp1 5, cellOf hp1 6⟩
        have f5 : w1.frozen? ⟨wr.heap.size + 1, 5, none⟩ = false := frozenOf ((hb1.block _ (Array.getElem?_eq_some_iff.1 hp0).1).trans hp0) 5
        have HNR : Aside (NR w u2 ((ds.take k).map Dec.arr) ⟨nm, 4, 64, 0, 0, List.replicate N ⟨64, 0, 0⟩, []⟩ (wr.heap.size + 1) g none (w1.setCell ⟨wr.heap.size + 1, 5, none⟩ (.slice (some ⟨g, 0, none⟩) N N))) := by
          exact NR.begin hB hA.out hbl hp0 (by omega) hg0 hg1 hb1 (by simp) (by simp [Arr.vals]) (.inl ⟨rfl, rfl⟩)
        have HOK : Aside (Arr.ok ⟨nm, 4, 64, 0, 0, List.replicate N ⟨64, 0, 0⟩, []⟩) := by
          have := Dec.arr_ok ⟨4, nm, N, Rate, Burst⟩ ⟨⟨n1, n2⟩, .inl rfl⟩
          exact this
        clear q0 q1 q2 q3 q4 q5 q6 q7 q8 q9 q10 q11 q12 q13 q14 e1 e2 hA hB hbl hp0 hs0 hg0 hg1 hb1
        go_wp2_with fail
        refine Calls.mono (HNR.out.may HOK.out) ?_
        rintro e w3 ⟨rfl, hb3⟩
        have hN3 := HNR.out.next hb3
        clear c0 c1 c2 c3 c4 c5 c6 f5
        obtain ⟨⟨c0, c1, c2⟩, c3, c4, c5, c6⟩ := hN3.cells
        simp only [List.length_replicate, List.length_nil] at c5 c6
        have HN3 : Aside _ := hN3
        clear hN3 hb3 HNR
        obtain ⟨ars, hars⟩ : ∃ ars, ars = (ds.take k).map Dec.arr := ⟨_, rfl⟩
        rw [← hars] at HN3
        have HARS : Aside (ars = (ds.take k).map Dec.arr) := hars
        have hln : ars.length ≤ 100 := by rw [hars, List.length_map]; have := List.length_take_le k ds; omega
        have HLN : Aside (ars.length ≤ 100) := hln
        clear hln
        clear hars
        have hN4 := HN3.out.next ((Below.refl w3.heap.size w3).alloc (Nat.le_refl _) (.cells #[.string nm, .int .u8 4, .int .i64 64, .int .i64 0, .int .i64 0, .slice (some ⟨g, 0, none⟩) N N, .slice none 0 0] 38))
        obtain ⟨vss, hv1, hv2, hv3⟩ := hN4.row
        have HN4 : Aside _ := hN4
        have HV1 : Aside _ := hv1
        have HV2 : Aside _ := hv2
        have HV3 : Aside _ := hv3
        have HC : Aside _ := Cells.lit w3 38 #[.string nm, .int .u8 4, .int .i64 64, .int .i64 0, .int .i64 0, .slice (some ⟨g, 0, none⟩) N N, .slice none 0 0] 1 7 rfl (by simp [Value.oneCell'])
        clear hN4 hv1 hv2 hv3 HN3
        go_wp2_with (at_builtin; refine append_cells w.heap.size rfl _ _ 23 38 (.agg #[.string ⟨#[]⟩, .int .u8 0, .int .i64 0, .int .i64 0, .int .i64 0, .slice none 0 0, .slice none 0 0]) 7 96 rfl Try.underlying23 infoArr rfl (by decide) (by decide) u2 ars.length vss.flatten _ _ 1 1 rfl rfl HV3.out HC.out HN4.out.below.size (by have := HLN.out; omega) ?_; intro v1 w8 hown hg hat; have hN := HN4.out.app HV1.out HV2.out HV3.out hown (by simp [Arr.vals]) hg hat; clear hown hg hat)
        go_roundw
        case rel => 
          refine ⟨k + 1, by omega, by go_num, ?_, hN.2⟩
          rw [take_arr ds k _ (by rw [HL.out]; exact hlt) HDK.out, ← HARS.out]
          exact hN.1
        case measure => (simp [intOf]; omega)
      · subst hkd
        have hwr : IntKind.u64.wrap Burst = Burst := by rw [IntKind.wrap_u64]; omega
        have hmk := makeInts N (by omega)
        have hN0 : (0 : Int) ≤ (N : Int) := by omega
        go_wp2_with fail
        go_region
        go_wp2_with fail
        refine Repeat_five wr _ _ _ _ 33 63 45 3 ⟨64, 0, Burst⟩ N n1 n2 _ ?_
        rintro W0 g w1 ⟨hp0, hbl, hs0, hq0⟩ hg0 hg1 hb1
        obtain ⟨c0, c1, c2, c3, c4, c5, c6⟩ : (w1.cell? ⟨wr.heap.size + 1, 0, none⟩ = some (.string nm)) ∧ w1.cell? ⟨wr.heap.size + 1, 1, none⟩ = some (.int .u8 5) ∧ w1.cell? ⟨wr.heap.size + 1, 2, none⟩ = some (.int .i64 64) ∧ w1.cell? ⟨wr.heap.size + 1, 3, none⟩ = some (.int .i64 Rate) ∧ w1.cell? ⟨wr.heap.size + 1, 4, none⟩ = some (.int .i64 Burst) ∧ w1.cell? ⟨wr.heap.size + 1, 5, none⟩ = some (.slice none 0 0) ∧ w1.cell? ⟨wr.heap.size + 1, 6, none⟩ = some (.slice (some ⟨wr.heap.size + 1 + 1 + 1, 0, none⟩) N N) := by
          have hp1 := (hb1.block _ (Array.getElem?_eq_some_iff.1 hp0).1).trans hp0
          exact ⟨cellOf hp1 0, cellOf hp1 1, cellOf hp1 2, cellOf hp1 3, cellOf hp1 4, cellOf hp1 5, cellOf hp1 6⟩
        have f5 : w1.frozen? ⟨wr.heap.size + 1, 5, none⟩ = false := frozenOf ((hb1.block _ (Array.getElem?_eq_some_iff.1 hp0).1).trans hp0) 5
        have HNR : Aside (NR w u2 ((ds.take k).map Dec.arr) ⟨nm, 5, 64, Rate, Burst, List.replicate N ⟨64, 0, Burst⟩, List.replicate N 0⟩ (wr.heap.size + 1) g (some ⟨wr.heap.size + 1 + 1 + 1, 0, none⟩) (w1.setCell ⟨wr.heap.size + 1, 5, none⟩ (.slice (some ⟨g, 0, none⟩) N N))) := by
          exact NR.begin hB hA.out hbl hp0 (by omega) hg0 hg1 hb1 (by simp) (by simp [Arr.vals]) (.inr ⟨_, rfl, by omega, by omega, hq0⟩)
        have HOK : Aside (Arr.ok ⟨nm, 5, 64, Rate, Burst, List.replicate N ⟨64, 0, Burst⟩, List.replicate N 0⟩) := by
          have := Dec.arr_ok ⟨5, nm, N, Rate, Burst⟩ ⟨⟨n1, n2⟩, .inr ⟨rfl, r0, r1, b0, b1⟩⟩
          exact this
        clear q0 q1 q2 q3 q4 q5 q6 q7 q8 q9 q10 q11 q12 q13 q14 e1 e2 hA hB hbl hp0 hs0 hq0 hwr hmk hg0 hg1 hb1
        go_wp2_with fail
        refine Calls.mono (HNR.out.may HOK.out) ?_
        rintro e w3 ⟨rfl, hb3⟩
        have hN3 := HNR.out.next hb3
        clear c0 c1 c2 c3 c4 c5 c6 f5
        obtain ⟨⟨c0, c1, c2⟩, c3, c4, c5, c6⟩ := hN3.cells
        simp only [List.length_replicate, List.length_nil] at c5 c6
        have HN3 : Aside _ := hN3
        clear hN3 hb3 HNR
        obtain ⟨ars, hars⟩ : ∃ ars, ars = (ds.take k).map Dec.arr := ⟨_, rfl⟩
        rw [← hars] at HN3
        have HARS : Aside (ars = (ds.take k).map Dec.arr) := hars
        have hln : ars.length ≤ 100 := by rw [hars, List.length_map]; have := List.length_take_le k ds; omega
        have HLN : Aside (ars.length ≤ 100) := hln
        clear hln
        clear hars
        have hN4 := HN3.out.next ((Below.refl w3.heap.size w3).alloc (Nat.le_refl _) (.cells #[.string nm, .int .u8 5, .int .i64 64, .int .i64 Rate, .int .i64 Burst, .slice (some ⟨g, 0, none⟩) N N, .slice (some ⟨wr.heap.size + 1 + 1 + 1, 0, none⟩) N N] 38))
        obtain ⟨vss, hv1, hv2, hv3⟩ := hN4.row
        have HN4 : Aside _ := hN4
        have HV1 : Aside _ := hv1
        have HV2 : Aside _ := hv2
        have HV3 : Aside _ := hv3
        have HC : Aside _ := Cells.lit w3 38 #[.string nm, .int .u8 5, .int .i64 64, .int .i64 Rate, .int .i64 Burst, .slice (some ⟨g, 0, none⟩) N N, .slice (some ⟨wr.heap.size + 1 + 1 + 1, 0, none⟩) N N] 1 7 rfl (by simp [Value.oneCell'])
        clear hN4 hv1 hv2 hv3 HN3
        go_wp2_with (at_builtin; refine append_cells w.heap.size rfl _ _ 23 38 (.agg #[.string ⟨#[]⟩, .int .u8 0, .int .i64 0, .int .i64 0, .int .i64 0, .slice none 0 0, .slice none 0 0]) 7 96 rfl Try.underlying23 infoArr rfl (by decide) (by decide) u2 ars.length vss.flatten _ _ 1 1 rfl rfl HV3.out HC.out HN4.out.below.size (by have := HLN.out; omega) ?_; intro v1 w8 hown hg hat; have hN := HN4.out.app HV1.out HV2.out HV3.out hown (by simp [Arr.vals]) hg hat; clear hown hg hat)
        go_roundw
        case rel => 
          refine ⟨k + 1, by omega, by go_num, ?_, hN.2⟩
          rw [take_arr ds k _ (by rw [HL.out]; exact hlt) HDK.out, ← HARS.out]
          exact hN.1
        case measure => (simp [intOf]; omega)
    · obtain rfl : k = n := by omega
      go_wp2
      go_ret
      refine ⟨u2, rfl, ?_, hB⟩
      have h := hA.out
      rwa [List.take_of_length_le (by rw [HL.out]; omega)] at h
end Go.Proofs.Ytanimonhnngfkaa.Own

/- cells.Check, of arrays that may be. -/
set_option linter.unusedVariables false
set_option linter.unusedSimpArgs false
namespace Go.Proofs.Ytanimonhnngfkaa.Own
open Go.RowKit

/-- Arrays in a row, read. -/
def ArrR (V : World) (b o : Nat) (a : Arr) : Prop :=
  ∃ A n c B m d, (∀ i v, (a.vals A n c B m d)[i]? = some v → V.cell? ⟨b, o + i, none⟩ = some v) ∧ ReadsNums V A n a.cs ∧ Reads V .i64 B m a.ls ∧ (B = none → d = 0)
def RowAt (V : World) (A : Option Addr) (n : Nat) (ars : List Arr) : Prop :=
  ars.length = n ∧ n ≤ 9223372036854775807 ∧ (0 < n → ∃ b off, A = some ⟨b, off, none⟩ ∧ b < V.heap.size ∧ ∀ j, j < n → ArrR V b (off + j * 7) (ars.getD j zeroArr))
theorem ArrR.below {V V' : World} {b o : Nat} {a : Arr} (h : ArrR V b o a) (hb : Below V.heap.size V V') (hlt : b < V.heap.size) : ArrR V' b o a := by
  obtain ⟨A, n, c, B, m, d, h1, h2, h3, h4⟩ := h
  exact ⟨A, n, c, B, m, d, fun i v hv => (hb.cell hlt).trans (h1 i v hv), h2.below hb, h3.below hb, h4⟩
theorem RowAt.below {V V' : World} {A : Option Addr} {n : Nat} {ars : List Arr} (h : RowAt V A n ars) (hb : Below V.heap.size V V') : RowAt V' A n ars :=
  ⟨h.1, h.2.1, fun h0 => by
    obtain ⟨b, off, h1, h2, h3⟩ := h.2.2 h0
    exact ⟨b, off, h1, Nat.lt_of_lt_of_le h2 hb.size, fun j hj => (h3 j hj).below hb h2⟩⟩
theorem flat7 (vss : List (List Value)) : (∀ j, j < vss.length → (vss.getD j []).length = 7) → ∀ j i, j < vss.length → i < 7 → vss.flatten[j * 7 + i]? = (vss.getD j [])[i]? := by
  induction vss with
  | nil => intro _ j i hj; simp at hj
  | cons vs vss ih =>
    intro h j i hj hi
    have h0 : vs.length = 7 := h 0 (by simp)
    cases j with
    | zero => simp only [Nat.zero_mul, Nat.zero_add, List.flatten_cons, List.getD_cons_zero]; rw [List.getElem?_append_left (by omega)]
    | succ j =>
      simp only [List.flatten_cons, List.getD_cons_succ]
      rw [List.getElem?_append_right (by rw [h0]; omega), h0, show (j + 1) * 7 + i - 7 = j * 7 + i by omega]
      exact ih (fun j hj => by have := h (j + 1) (by simpa using hj); simpa using this) j i (by simpa using hj) hi
theorem ArrsAt.rowAt {V : World} {base : Nat} {v : Value} {ars : List Arr} (h : ArrsAt V base v ars) (hok : ∀ j, j < ars.length → (ars.getD j zeroArr).ok) (hln : ars.length ≤ 1048576) : ∃ A c, v = .slice A ars.length c ∧ RowAt V A ars.length ars := by
  obtain ⟨vss, h1, h2, h3⟩ := h
  rcases h3.2 with ⟨rfl, h0⟩ | ⟨g, cap, cur, rfl, hg, hh, hnc, hcm, hcs, ht⟩
  · exact ⟨none, 0, by rw [h0], rfl, by omega, fun h => by omega⟩
  · refine ⟨some ⟨g, 0, none⟩, cap, rfl, rfl, by omega, fun hp => ⟨g, 0, rfl, (Array.getElem?_eq_some_iff.1 hh).1, fun j hj => ?_⟩⟩
    have h7 : ∀ j, j < vss.length → (vss.getD j []).length = 7 := fun j hj => by
      obtain ⟨g, B, e, _⟩ := h2 j (by omega)
      rw [e]; rfl
    obtain ⟨g', B, e, b1, b2, b3, b4⟩ := h2 j hj
    have ho := hok j hj
    have hl := ho.len
    generalize ars.getD j zeroArr = a at *
    have hml : a.ls.length ≤ 4096 := by
      have := ho.scal
      rcases ho.kd with k | k | k
      · rw [(this.1 (by omega)).2.2]; simp
      · rw [(this.1 (by omega)).2.2]; simp
      · have := (this.2.2.2 k).2.2.2.2; omega
    refine ⟨some ⟨g', 0, none⟩, a.cs.length, a.cs.length, B, a.ls.length, a.ls.length, fun i u hu => ?_, readsNums_at b3 (by omega), ?_, fun hB => by
      rcases b4 with ⟨_, h0⟩ | ⟨b, h0, _⟩
      · exact h0
      · rw [hB] at h0; cases h0⟩
    · have hi : i < 7 := (Array.getElem?_eq_some_iff.1 hu).1
      have := h3.cells (g := g) rfl (j * 7 + i) u (by rw [flat7 vss h7 j i (by omega) hi, e]; simpa using hu)
      rwa [add_plain, ← Nat.zero_add (j * 7 + i), ← Nat.add_assoc] at this
    · rcases b4 with ⟨rfl, h0⟩ | ⟨b, rfl, b2, b3, b4⟩
      · have : a.ls = [] := List.eq_nil_of_length_eq_zero h0
        rw [this]; exact Reads.nil _ _
      · exact reads_at b4 (by omega)

set_option maxRecDepth 100000 in
set_option maxHeartbeats 2000000 in
/-- Check's closure, of an array that may be. -/
theorem bad2_no (a : Arr) (ho : a.ok) (A : Option Addr) (n c : Nat) (B : Option Addr) (m d : Nat) (w : World) (hR : ReadsNums w A n a.cs) (hS : Reads w .i64 B m a.ls) :
    Calls Try.prog 29 #[.agg (a.vals A n c B m d)] w fun e w' => e = .returned (.bool false) ∧ Below w.heap.size w w' := by
  have hb2 : Below w.heap.size w ((w.alloc (.cells (a.vals A n c B m d) 38)).alloc (.cells (a.vals A n c B m d) 63)) := ((Below.refl _ _).alloc (Nat.le_refl _) _).alloc (by rw [sizeLit]; omega) _
  have hm := may_ok a ho A n c B m d (w.heap.size + 1) _ (hR.below hb2) (hS.below hb2) (heapLit _ _ 63 _ (by rw [sizeLit]))
  have HM : Aside _ := hm
  clear hm hR hS ho
  unfold Arr.vals at *
  go_enter Try.func29, Try.ntmps29
  go_wp2_with fail
  refine Calls.mono HM.out ?_
  rintro e w5 ⟨rfl, hb5⟩
  go_wp2
  go_ret
  exact ⟨rfl, hb2.trans (hb5.mono hb2.size)⟩

set_option maxRecDepth 100000 in
set_option maxHeartbeats 2000000 in
theorem idx3_none (ars : List Arr) (hok : ∀ j, j < ars.length → (ars.getD j zeroArr).ok) (A : Option Addr) (n c : Nat) (w : World) (hR : RowAt w A n ars) :
    Calls Try.prog 43 #[.slice A n c, .func (.func 29) #[] #[]] w fun e w' => e = .returned (.int .i64 (-1)) ∧ Below w.heap.size w w' := by
  have hnm := hR.2.1
  have HR : Aside (RowAt w A n ars) := hR
  have HX : Aside (∀ j, j < n → (ars.getD j zeroArr).ok) := fun j hj => hok j (by rw [hR.1]; exact hj)
  clear hR hok
  go_enter Try.func43, Try.ntmps43
  go_wp2
  go_loopw [8] (fun i wr => ∃ k : Nat, k ≤ n ∧ i = .int .i64 k ∧ Below w.heap.size w wr) (fun i _ => n - (intOf i).toNat)
  case atStart => exact ⟨0, Nat.zero_le _, rfl, Below.refl _ _⟩
  case round =>
    obtain ⟨k, hk, rfl, hB⟩ := hrel
    by_cases hlt : k < n
    · obtain ⟨b, off, hA, hbs, hcells⟩ := (HR.out.below hB).2.2 (by omega)
      subst hA
      obtain ⟨A', n', c', B', m', d', hc, hr1, hr2, _⟩ := hcells k hlt
      have HC : Aside _ := bad2_no _ (HX.out k hlt) A' n' c' B' m' d' wr hr1 hr2
      generalize ars.getD k zeroArr = a at *
      have q0 := hc 0 _ rfl
      have q1 := hc 1 _ rfl
      have q2 := hc 2 _ rfl
      have q3 := hc 3 _ rfl
      have q4 := hc 4 _ rfl
      have q5 := hc 5 _ rfl
      have q6 := hc 6 _ rfl
      simp only [Nat.add_zero] at q0
      have hk0 : (0 : Int) ≤ (k : Int) := by omega
      have hk1 : (k : Int) < (n : Int) := by omega
      clear hcells hc hr1 hr2
      unfold Arr.vals at HC
      go_wp2_with fail
      refine Calls.mono HC.out ?_
      rintro e w5 ⟨rfl, hb5⟩
      have hM5 := hB.trans (hb5.mono hB.size)
      go_wp2
      go_roundw
      case rel => exact ⟨k + 1, by omega, by go_num, hM5⟩
      case measure => (simp [intOf]; omega)
    · obtain rfl : k = n := by omega
      go_wp2
      go_ret
      exact ⟨rfl, hB⟩
theorem has3_none (ars : List Arr) (hok : ∀ j, j < ars.length → (ars.getD j zeroArr).ok) (A : Option Addr) (n c : Nat) (w : World) (hR : RowAt w A n ars) :
    Calls Try.prog 28 #[.slice A n c, .func (.func 29) #[] #[]] w fun e w' => e = .returned (.bool false) ∧ Below w.heap.size w w' := by
  have HI := idx3_none ars hok A n c w hR
  clear hR
  go_enter Try.func28, Try.ntmps28
  go_wp2_with fail
  refine Calls.mono HI ?_
  rintro e w5 ⟨rfl, hb5⟩
  go_wp2
  go_ret
  exact ⟨rfl, hb5⟩
theorem Check_ok (ars : List Arr) (hok : ∀ j, j < ars.length → (ars.getD j zeroArr).ok) (A : Option Addr) (n c : Nat) (w : World) (hR : RowAt w A n ars) :
    Calls Try.prog 16 #[.slice A n c] w fun e w' => e = .returned (.bool true) ∧ Below w.heap.size w w' := by
  have HI := has3_none ars hok A n c w hR
  clear hR
  go_enter Try.func16, Try.ntmps16
  go_wp2_with fail
  refine Calls.mono HI ?_
  rintro e w5 ⟨rfl, hb5⟩
  go_wp2
  go_ret
  exact ⟨rfl, hb5⟩
end Go.Proofs.Ytanimonhnngfkaa.Own

/- slices.Clone and slices.Clip of ints. -/
set_option linter.unusedVariables false
set_option linter.unusedSimpArgs false
namespace Go.Proofs.Ytanimonhnngfkaa.Own
open Go.RowKit

theorem reads_lit0 (w : World) (B : Option Addr) (m : Nat) (ls : List Int) (h : Reads w .i64 B m ls) (h0 : B = none) : m = 0 ∧ ls = [] := by
  subst h0
  rcases Nat.eq_zero_or_pos m with hm | hm
  · exact ⟨hm, List.eq_nil_of_length_eq_zero (by rw [h.1]; exact hm)⟩
  · obtain ⟨ad, h1, _⟩ := h.2.2 hm; cases h1
set_option maxRecDepth 100000 in
theorem Clone_any (B : Option Addr) (m d : Nat) (ls : List Int) (w : World) (hS : Reads w .i64 B m ls) (hm : m ≤ 4096) (hd : B = none → d = 0) :
    Calls Try.prog 38 #[.slice B m d] w fun e w' => ∃ v, e = .returned v ∧ w'.ownsRow w.heap.size 3 1 v m (nums .i64 ls) ∧ Below w.heap.size w w' := by
  rcases B with _ | ad
  · obtain ⟨rfl, rfl⟩ := reads_lit0 w _ _ _ hS rfl
    obtain rfl := hd rfl
    have hnil : ∀ W, (binOp BinOp.eql 36 (.slice none 0 0) (.slice none 0 0)).run Try.prog W = .ok (.bool true) W := fun W => by kernel_rfl
    clear hd hm
    go_enter Try.func38, Try.ntmps38
    go_wp2_with fail
    go_ret
    exact ⟨_, rfl, World.ownsRow_nil _ _ _ _, Below.refl _ _⟩
  · have hnil : ∀ W, (binOp BinOp.eql 36 (.slice (some ad) m d) (.slice none 0 0)).run Try.prog W = .ok (.bool false) W := fun W => by kernel_rfl
    have hS1 := hS.below ((Below.refl w.heap.size w).alloc (Nat.le_refl _) (.cells #[] 3))
    have HO : Aside _ := World.ownsRow_lit (base := w.heap.size) (e := 3) (size := 1) w #[] 0 (Nat.le_refl _) (by simp [maxLen]) rfl
    have HS : Aside _ := hS1
    have HB : Aside _ := ((Below.refl w.heap.size w).alloc (Nat.le_refl _) (.cells #[] 3))
    clear hS hS1 hd
    go_enter Try.func38, Try.ntmps38
    go_wp2_with (at_builtin; refine append_row w.heap.size rfl _ _ 36 3 .i64 8 rfl Try.underlying36 infoI64 (by decide) (.slice (some ⟨w.heap.size, 0, none⟩) 0 0) [] ls (some ad) m d rfl rfl HO.out HS.out HB.out.size (by simp; omega) ?_; intro v1 w8 hown hg hat; have hb := HB.out.trans ((own_grown HO.out hg HB.out.size).mono (Nat.le_refl _)); clear hg hat)
    go_ret
    rw [List.nil_append, HS.out.1] at hown
    exact ⟨v1, rfl, hown, hb⟩
set_option maxRecDepth 100000 in
theorem Clip_any (v : Value) (m base : Nat) (ls : List Int) (w : World) (hO : w.ownsRow base 3 1 v m (nums .i64 ls)) (hm : m ≤ 4096) :
    Calls Try.prog 37 #[v] w fun e w' => ∃ B, e = .returned (.slice B m m) ∧ (B = none ∨ ∃ b, B = some ⟨b, 0, none⟩ ∧ base ≤ b) ∧ Reads w .i64 B m ls ∧ w' = w := by
  obtain ⟨A, L, c, rfl, hL⟩ := own_form hO
  obtain rfl : L = m := hL
  have HR := own_rd' hO
  have hnc : L ≤ c ∧ (A = none ∨ ∃ b, A = some ⟨b, 0, none⟩ ∧ base ≤ b) ∧ c ≤ 9223372036854775807 := by
    rcases hO.2 with ⟨h1, h2⟩ | ⟨g, cap, cur, h1, h2, h3, h4, h5, _⟩
    · cases h1; exact ⟨Nat.le_refl _, .inl rfl, by omega⟩
    · cases h1; exact ⟨h4, .inr ⟨g, rfl, h2⟩, by simpa [maxLen] using h5⟩
  obtain ⟨n1, n2, n3⟩ := hnc
  have hL0 : (0 : Int) ≤ (L : Int) := by omega
  have hLc : (L : Int) ≤ (c : Int) := by omega
  have HN2 : Aside _ := n2
  have HRR : Aside _ := HR
  clear hO HR n2
  have hsl : ∀ W : World, (Instr.slice 36 (.slice A L c) none (some (.int .i64 (L : Int))) (some (.int .i64 (L : Int)))).run Try.prog W = .ok (.slice A L L) W := by
    intro W
    rw [run_slice_hm (P := Try.prog) W 36 A L c (by kernel_rfl) .i64 .i64 (L : Int) (L : Int) (by omega) (by omega) (by omega)]
    have hsz : (sizeOf (Try.prog.elem 36)).run Try.prog W = .ok 1 W := by kernel_rfl
    rw [hsz]
    rcases HN2.out with rfl | ⟨b, rfl, _⟩
    · simp [sliced, Result.andThen]
    · simp [sliced, Result.andThen, add_plain]
  go_enter Try.func37, Try.ntmps37
  go_wp2_with fail
  go_ret
  exact ⟨A, rfl, HN2.out, HRR.out, rfl⟩
end Go.Proofs.Ytanimonhnngfkaa.Own

/- The cell of an array that may be, in a copy of its cells. -/
set_option linter.unusedVariables false
set_option linter.unusedSimpArgs false
namespace Go.Proofs.Ytanimonhnngfkaa.Own
open Go.RowKit

/-- The box of the place, and the array's box. -/
structure CL (w : World) (bx p : Nat) (x : Num) (vals : Array Value) (W : World) : Prop where
  hx : W.heap[bx]? = some (.cells #[.int .i64 x.W, .int .u64 x.Hi, .int .u64 x.Lo] 45 (0, 0))
  hp : W.heap[p]? = some (.cells vals 63 (0, 0))
  below : Below w.heap.size w W
theorem CL.next {w : World} {bx p : Nat} {x : Num} {vals : Array Value} {W W' : World} (h : CL w bx p x vals W) (hb : Below W.heap.size W W') : CL w bx p x vals W' :=
  ⟨(hb.block _ (Array.getElem?_eq_some_iff.1 h.hx).1).trans h.hx, (hb.block _ (Array.getElem?_eq_some_iff.1 h.hp).1).trans h.hp, h.below.trans (hb.mono h.below.size)⟩

set_option maxRecDepth 100000 in
set_option maxHeartbeats 4000000 in
theorem cell_in (a : Arr) (ho : a.ok) (A : Option Addr) (n c : Nat) (B : Option Addr) (m d p k : Nat) (hBd : B = none → d = 0) (x : Num) (hxw : x.wf) (hxo : x.ok) (hx0 : x.Hi = 0) (hxk : x.Lo = (k : Int)) (hk : k < n) (w : World) (hR : ReadsNums w A n a.cs) (hS : Reads w .i64 B m a.ls) (hp : w.heap[p]? = some (.cells (a.vals A n c B m d) 63 (0, 0)))
    (hAp : ∀ ad, A = some ad → 0 < n → ad.block ≠ p) (hBp : ∀ ad, B = some ad → 0 < m → ad.block ≠ p) :
    Calls Try.prog 21 #[.pointer (some ⟨p, 0, none⟩), .int .u8 a.kd, x.v] w fun e w' => ∃ g B', e = .returned (.tuple #[.pointer (some ⟨g, k * 3, none⟩), .int .i64 (k : Int), .int .i64 0]) ∧
      w.heap.size ≤ g ∧ w'.heap[g]? = some (.cells (numsV a.cs).toArray 45 (0, 0)) ∧ w'.heap[p]? = some (.cells (a.vals (some ⟨g, 0, none⟩) n n B' m m) 63 (0, 0)) ∧ Reads w' .i64 B' m a.ls ∧ (B' = none ∨ ∃ b, B' = some ⟨b, 0, none⟩ ∧ g < b) ∧ Foot (fun i => i = p) w w' := by
  have hplt := (Array.getElem?_eq_some_iff.1 hp).1
  have hB1 : Below w.heap.size w (w.alloc (.cells #[.int .i64 x.W, .int .u64 x.Hi, .int .u64 x.Lo] 45)) := (Below.refl _ _).alloc (Nat.le_refl _) _
  have hC : CL w w.heap.size p x (a.vals A n c B m d) (w.alloc (.cells #[.int .i64 x.W, .int .u64 x.Hi, .int .u64 x.Lo] 45)) := ⟨heap_alloc_new _ _, heapOld _ _ _ _ hp, hB1⟩
  have HMAY : Aside (∀ V, CL w w.heap.size p x (a.vals A n c B m d) V → Calls Try.prog 20 #[.pointer (some ⟨p, 0, none⟩)] V fun e w' => e = .returned (.bool true) ∧ Below V.heap.size V w') :=
    fun V hV => may_ok a ho A n c B m d p V (hR.below hV.below) (hS.below hV.below) hV.hp
  have HCHK : Aside (∀ V, Calls Try.prog 27 #[x.v] V fun e w' => e = .returned (.bool true) ∧ Below V.heap.size V w') := fun V => check_good x hxw hxo V
  have HRS : Aside (∀ V, CL w w.heap.size p x (a.vals A n c B m d) V → ReadsNums V A n a.cs ∧ Reads V .i64 B m a.ls) := fun V hV => ⟨hR.below hV.below, hS.below hV.below⟩
  have hnl : a.cs.length = n := hR.1
  have hl := ho.len
  rw [hnl] at hl
  have hml : m ≤ 4096 := by
    have h1 := ho.scal
    have h2 : a.ls.length = m := hS.1
    rcases ho.kd with k | k | k
    · rw [(h1.1 (by omega)).2.2] at h2; simp at h2; omega
    · rw [(h1.1 (by omega)).2.2] at h2; simp at h2; omega
    · have := (h1.2.2.2 k).2.2.2.2; omega
  have HCL : Aside (∀ (V : World), CL w w.heap.size p x (a.vals A n c B m d) V → (V.cell? ⟨w.heap.size, 0, none⟩ = some (.int .i64 x.W) ∧ V.cell? ⟨w.heap.size, 1, none⟩ = some (.int .u64 x.Hi) ∧ V.cell? ⟨w.heap.size, 2, none⟩ = some (.int .u64 x.Lo)) ∧ (V.cell? ⟨p, 1, none⟩ = some (.int .u8 a.kd) ∧ V.cell? ⟨p, 5, none⟩ = some (.slice A n c) ∧ V.cell? ⟨p, 6, none⟩ = some (.slice B m d))) :=
    fun V h => ⟨⟨cellOf h.hx 0, cellOf h.hx 1, cellOf h.hx 2⟩, cellOf h.hp 1, cellOf h.hp 5, cellOf h.hp 6⟩
  obtain ⟨⟨k0, k1, k2⟩, k3, k5, k6⟩ := HCL.out _ hC
  obtain ⟨xW, xh, xl⟩ := x
  simp only at hx0 hxk k0 k1 k2
  subst hx0 hxk
  have HC : Aside _ := hC
  have HAP : Aside _ := hAp
  have HBP : Aside _ := hBp
  unfold Num.v at *
  have hwr : IntKind.u64.wrap (n : Int) = (n : Int) := by rw [IntKind.wrap_u64]; omega
  have hwi : IntKind.i64.wrap (k : Int) = (k : Int) := by rw [IntKind.wrap_i64]; omega
  have hkd : decide (n ≤ k) = false := decide_eq_false (by omega)
  have hmk := makeNums n (by omega)
  clear hC hB1 hxw hxo hR hS hp hAp hBp
  go_enter Try.func21, Try.ntmps21
  go_wp2_with fail
  refine Calls.mono (HMAY.out _ HC.out) ?_
  rintro e w1 ⟨rfl, hb1⟩
  have hC1 := HC.out.next hb1
  clear k0 k1 k2 k3 k5 k6
  obtain ⟨⟨k0, k1, k2⟩, k3, k5, k6⟩ := HCL.out _ hC1
  go_wp2_with fail
  refine Calls.mono (HCHK.out _) ?_
  rintro e w2 ⟨rfl, hb2⟩
  have hC2 := hC1.next hb2
  clear k0 k1 k2 k3 k5 k6
  obtain ⟨⟨k0, k1, k2⟩, k3, k5, k6⟩ := HCL.out _ hC2
  go_wp2_with fail
  go_quiet (fail)
  have hC3 := hC2.next (below_drewN (Below.refl _ _) nq)
  generalize w2.drewN nq = V at *
  clear k0 k1 k2 k3 k5 k6 hC1 hC2 hb1 hb2 HMAY HCHK HC
  obtain ⟨⟨k0, k1, k2⟩, k3, k5, k6⟩ := HCL.out _ hC3
  obtain ⟨hRn, hSn⟩ := HRS.out _ hC3
  obtain ⟨b, off, hA, hsrc⟩ := nums_src hRn (by omega)
  subst hA
  have hbV : Below V.heap.size V (V.alloc (.cells (madeCells #[.int .i64 0, .int .u64 0, .int .u64 0] (n * 3)) 45)) := (Below.refl _ _).alloc (Nat.le_refl _) _
  have hV0 : (V.alloc (.cells (madeCells #[.int .i64 0, .int .u64 0, .int .u64 0] (n * 3)) 45)).heap[V.heap.size]? = some (.cells (numsV (List.replicate n zeroNum)).toArray 45 (0, 0)) := by
    rw [heap_alloc_new]
    have e : madeCells #[.int .i64 0, .int .u64 0, .int .u64 0] (n * 3) = (numsV (List.replicate n zeroNum)).toArray := by
      rw [← Array.toList_inj, madeNums]
    rw [e]
  have k5a := (hbV.cell (p := ⟨p, 5, none⟩) (Array.getElem?_eq_some_iff.1 hC3.hp).1).trans k5
  obtain ⟨W1, hrun, hg1, hB1⟩ := copy_nums (V.alloc (.cells (madeCells #[.int .i64 0, .int .u64 0, .int .u64 0] (n * 3)) 45)) V.heap.size V 30 30 3 n V.heap.size 0 n n ⟨b, off, none⟩ n c (List.replicate n zeroNum) a.cs Try.underlying30 hV0 (by show n = min n n; omega) hnl (fun j v hv => (hbV.cell (p := (⟨b, off, none⟩ : Addr).add j) (by
    rw [add_block]
    obtain ⟨b', off', e1, e2, _⟩ := hRn.2.2 (by omega)
    cases e1; exact e2)).trans (hsrc j v hv)) (by simp) hbV (Nat.le_refl _)
  have hg1' : W1.heap[V.heap.size]? = some (.cells (numsV a.cs).toArray 45 (0, 0)) := by
    rw [hg1]
    have e : (numsV (List.replicate n zeroNum)).drop (0 + (numsV a.cs).length) = [] := List.drop_eq_nil_of_le (by rw [numsV_length, numsV_length, hnl]; simp)
    rw [e]
    simp
  have hp1 := (hB1.block _ (Array.getElem?_eq_some_iff.1 hC3.hp).1).trans hC3.hp
  have hx1 := (hB1.block _ (Array.getElem?_eq_some_iff.1 hC3.hx).1).trans hC3.hx
  have hS1 := hSn.below hB1
  have q5 := cellOf hp1 5
  have q6 := cellOf hp1 6
  have f5 := frozenOf hp1 5
  simp only [show ∀ (A : Option Addr) n c B m d, (a.vals A n c B m d)[5]? = some (.slice A n c) from fun _ _ _ _ _ _ => rfl, show ∀ (A : Option Addr) n c B m d, (a.vals A n c B m d)[6]? = some (.slice B m d) from fun _ _ _ _ _ _ => rfl] at q5 q6
  go_wp2_with fail
  have hpV : p < V.heap.size := (Array.getElem?_eq_some_iff.1 hC3.hp).1
  have hVw := hC3.below.size
  have hp2 : (W1.setCell ⟨p, 5, none⟩ (.slice (some ⟨V.heap.size, 0, none⟩) n n)).heap[p]? = some (.cells (a.vals (some ⟨V.heap.size, 0, none⟩) n n B m d) 63 (0, 0)) := setCell_heap hp1 5 _
  have hx2 : (W1.setCell ⟨p, 5, none⟩ (.slice (some ⟨V.heap.size, 0, none⟩) n n)).heap[w.heap.size]? = _ := setOther hx1 (by show p ≠ w.heap.size; omega)
  have hg2 : (W1.setCell ⟨p, 5, none⟩ (.slice (some ⟨V.heap.size, 0, none⟩) n n)).heap[V.heap.size]? = _ := setOther hg1' (by show p ≠ V.heap.size; omega)
  have hS2 : Reads (W1.setCell ⟨p, 5, none⟩ (.slice (some ⟨V.heap.size, 0, none⟩) n n)) .i64 B m a.ls := hS1.foot ((Foot.refl (fun i => i = p) W1).setCell (.inl rfl) _) (fun ad e h0 => HBP.out ad e h0)
  have HF : Aside (Foot (fun i => i = p) w (W1.setCell ⟨p, 5, none⟩ (.slice (some ⟨V.heap.size, 0, none⟩) n n))) := (Foot.ofBelow (hC3.below.trans (hB1.mono hVw)) (fun i => i = p)).setCell (p := ⟨p, 5, none⟩) (.inl rfl) _
  generalize W1.setCell ⟨p, 5, none⟩ (.slice (some ⟨V.heap.size, 0, none⟩) n n) = X1 at *
  clear k0 k1 k2 k3 k5 k6 k5a q5 q6 f5 hrun hmk hp1 hx1 hg1 hg1' hS1 hB1 hV0 hbV hsrc hRn hSn HRS HCL HAP HBP hwr hkd
  refine Calls.mono (Clone_any B m d a.ls X1 hS2 hml hBd) ?_
  rintro e w3 ⟨v, rfl, hO, hb3⟩
  go_wp2_with fail
  refine Calls.mono (Clip_any v m _ a.ls w3 hO hml) ?_
  rintro e w4 ⟨B', rfl, hB', hR', rfl⟩
  have hp3 := (hb3.block _ (Array.getElem?_eq_some_iff.1 hp2).1).trans hp2
  have hx3 := (hb3.block _ (Array.getElem?_eq_some_iff.1 hx2).1).trans hx2
  have hg3 := (hb3.block _ (Array.getElem?_eq_some_iff.1 hg2).1).trans hg2
  have q6 := cellOf hp3 6
  have f6 := frozenOf hp3 6
  simp only [show ∀ (A : Option Addr) n c B m d, (a.vals A n c B m d)[6]? = some (.slice B m d) from fun _ _ _ _ _ _ => rfl] at q6
  go_wp2_with fail
  have hpX : p < X1.heap.size := (Array.getElem?_eq_some_iff.1 hp2).1
  have hgX : V.heap.size < X1.heap.size := (Array.getElem?_eq_some_iff.1 hg2).1
  have hp4 : (w4.setCell ⟨p, 6, none⟩ (.slice B' m m)).heap[p]? = some (.cells (a.vals (some ⟨V.heap.size, 0, none⟩) n n B' m m) 63 (0, 0)) := setCell_heap hp3 6 _
  have hx4 : (w4.setCell ⟨p, 6, none⟩ (.slice B' m m)).heap[w.heap.size]? = _ := setOther hx3 (by show p ≠ w.heap.size; omega)
  have hg4 : (w4.setCell ⟨p, 6, none⟩ (.slice B' m m)).heap[V.heap.size]? = _ := setOther hg3 (by show p ≠ V.heap.size; omega)
  have hR4 : Reads (w4.setCell ⟨p, 6, none⟩ (.slice B' m m)) .i64 B' m a.ls := hR'.foot ((Foot.refl (fun i => i = p) w4).setCell (.inl rfl) _) (fun ad e h0 => by
    rcases hB' with h | ⟨b, h, h5⟩
    · rw [h] at e; cases e
    · rw [h] at e; cases e; show ¬ b = p; omega)
  have HF4 : Aside (Foot (fun i => i = p) w (w4.setCell ⟨p, 6, none⟩ (.slice B' m m))) := (HF.out.trans (Foot.ofBelow hb3 (fun _ => False)) (fun i h => h.elim)).setCell (p := ⟨p, 6, none⟩) (.inl rfl) _
  have HBB : Aside (B' = none ∨ ∃ b, B' = some ⟨b, 0, none⟩ ∧ V.heap.size < b) := hB'.imp id (fun ⟨b, h1, h2⟩ => ⟨b, h1, by omega⟩)
  generalize w4.setCell ⟨p, 6, none⟩ (.slice B' m m) = X2 at *
  have k2 := cellOf hx4 2
  have k5 := cellOf hp4 5
  simp only [show ∀ (A : Option Addr) n c B m d, (a.vals A n c B m d)[5]? = some (.slice A n c) from fun _ _ _ _ _ _ => rfl] at k5
  replace k2 : X2.cell? ⟨w.heap.size, 2, none⟩ = some (.int .u64 (k : Int)) := k2
  have hk0 : (0 : Int) ≤ (k : Int) := by omega
  have hk1 : (k : Int) < (n : Int) := by omega
  have HG4 : Aside _ := hg4
  have HP4 : Aside _ := hp4
  clear q6 f6 hp3 hx3 hg3 hp2 hx2 hg2 hS2 hO hb3 hR' HF hB' hg4 hp4 hx4
  go_quiet (fail)
  go_wp2
  go_ret3
  exact ⟨V.heap.size, B', rfl, hVw, HG4.out, HP4.out, hR4, HBB.out, HF4.out.drewN _⟩
set_option maxRecDepth 100000 in
set_option maxHeartbeats 4000000 in
theorem cell_out (a : Arr) (ho : a.ok) (A : Option Addr) (n c : Nat) (B : Option Addr) (m d p k : Nat) (hBd : B = none → d = 0) (x : Num) (hxw : x.wf) (hxo : x.ok) (hx0 : x.Hi = 0) (hxk : x.Lo = (k : Int)) (hk : n ≤ k) (hkb : k ≤ 18446744073709551615) (w : World) (hR : ReadsNums w A n a.cs) (hS : Reads w .i64 B m a.ls) (hp : w.heap[p]? = some (.cells (a.vals A n c B m d) 63 (0, 0)))
    (hAp : ∀ ad, A = some ad → 0 < n → ad.block ≠ p) (hBp : ∀ ad, B = some ad → 0 < m → ad.block ≠ p) :
    Calls Try.prog 21 #[.pointer (some ⟨p, 0, none⟩), .int .u8 a.kd, x.v] w fun e w' => e = .returned (.tuple #[.pointer none, .int .i64 0, .int .i64 11]) ∧ Below w.heap.size w w' := by
  have hplt := (Array.getElem?_eq_some_iff.1 hp).1
  have hB1 : Below w.heap.size w (w.alloc (.cells #[.int .i64 x.W, .int .u64 x.Hi, .int .u64 x.Lo] 45)) := (Below.refl _ _).alloc (Nat.le_refl _) _
  have hC : CL w w.heap.size p x (a.vals A n c B m d) (w.alloc (.cells #[.int .i64 x.W, .int .u64 x.Hi, .int .u64 x.Lo] 45)) := ⟨heap_alloc_new _ _, heapOld _ _ _ _ hp, hB1⟩
  have HMAY : Aside (∀ V, CL w w.heap.size p x (a.vals A n c B m d) V → Calls Try.prog 20 #[.pointer (some ⟨p, 0, none⟩)] V fun e w' => e = .returned (.bool true) ∧ Below V.heap.size V w') :=
    fun V hV => may_ok a ho A n c B m d p V (hR.below hV.below) (hS.below hV.below) hV.hp
  have HCHK : Aside (∀ V, Calls Try.prog 27 #[x.v] V fun e w' => e = .returned (.bool true) ∧ Below V.heap.size V w') := fun V => check_good x hxw hxo V
  have HRS : Aside (∀ V, CL w w.heap.size p x (a.vals A n c B m d) V → ReadsNums V A n a.cs ∧ Reads V .i64 B m a.ls) := fun V hV => ⟨hR.below hV.below, hS.below hV.below⟩
  have hnl : a.cs.length = n := hR.1
  have hl := ho.len
  rw [hnl] at hl
  have hml : m ≤ 4096 := by
    have h1 := ho.scal
    have h2 : a.ls.length = m := hS.1
    rcases ho.kd with k | k | k
    · rw [(h1.1 (by omega)).2.2] at h2; simp at h2; omega
    · rw [(h1.1 (by omega)).2.2] at h2; simp at h2; omega
    · have := (h1.2.2.2 k).2.2.2.2; omega
  have HCL : Aside (∀ (V : World), CL w w.heap.size p x (a.vals A n c B m d) V → (V.cell? ⟨w.heap.size, 0, none⟩ = some (.int .i64 x.W) ∧ V.cell? ⟨w.heap.size, 1, none⟩ = some (.int .u64 x.Hi) ∧ V.cell? ⟨w.heap.size, 2, none⟩ = some (.int .u64 x.Lo)) ∧ (V.cell? ⟨p, 1, none⟩ = some (.int .u8 a.kd) ∧ V.cell? ⟨p, 5, none⟩ = some (.slice A n c) ∧ V.cell? ⟨p, 6, none⟩ = some (.slice B m d))) :=
    fun V h => ⟨⟨cellOf h.hx 0, cellOf h.hx 1, cellOf h.hx 2⟩, cellOf h.hp 1, cellOf h.hp 5, cellOf h.hp 6⟩
  obtain ⟨⟨k0, k1, k2⟩, k3, k5, k6⟩ := HCL.out _ hC
  obtain ⟨xW, xh, xl⟩ := x
  simp only at hx0 hxk k0 k1 k2
  subst hx0 hxk
  have HC : Aside _ := hC
  have HAP : Aside _ := hAp
  have HBP : Aside _ := hBp
  unfold Num.v at *
  have hwr : IntKind.u64.wrap (n : Int) = (n : Int) := by rw [IntKind.wrap_u64]; omega
  have hkd : decide (n ≤ k) = true := decide_eq_true hk
  clear hC hB1 hxw hxo hR hS hp hAp hBp
  go_enter Try.func21, Try.ntmps21
  go_wp2_with fail
  refine Calls.mono (HMAY.out _ HC.out) ?_
  rintro e w1 ⟨rfl, hb1⟩
  have hC1 := HC.out.next hb1
  clear k0 k1 k2 k3 k5 k6
  obtain ⟨⟨k0, k1, k2⟩, k3, k5, k6⟩ := HCL.out _ hC1
  go_wp2_with fail
  refine Calls.mono (HCHK.out _) ?_
  rintro e w2 ⟨rfl, hb2⟩
  have hC2 := hC1.next hb2
  clear k0 k1 k2 k3 k5 k6
  obtain ⟨⟨k0, k1, k2⟩, k3, k5, k6⟩ := HCL.out _ hC2
  go_wp2_with fail
  go_quiet (fail)
  have hC3 := hC2.next (below_drewN (Below.refl _ _) nq)
  go_wp2
  go_ret3
  exact ⟨rfl, hC3.below⟩
end Go.Proofs.Ytanimonhnngfkaa.Own

/- cell, where it refuses. -/
set_option linter.unusedVariables false
set_option linter.unusedSimpArgs false
namespace Go.Proofs.Ytanimonhnngfkaa.Own
open Go.RowKit

set_option maxRecDepth 100000 in
set_option maxHeartbeats 4000000 in
theorem cell_e1 (a : Arr) (hw : a.wf) (A : Option Addr) (n c : Nat) (B : Option Addr) (m d p : Nat) (kk : Int) (x : Num) (hxw : x.wf) (hok : a.okB = false) (w : World) (hR : ReadsNums w A n a.cs) (hS : Reads w .i64 B m a.ls) (hp : w.heap[p]? = some (.cells (a.vals A n c B m d) 63 (0, 0))) :
    Calls Try.prog 21 #[.pointer (some ⟨p, 0, none⟩), .int .u8 kk, x.v] w fun e w' => e = .returned (.tuple #[.pointer none, .int .i64 0, .int .i64 1]) ∧ Below w.heap.size w w' := by
  have hB1 : Below w.heap.size w (w.alloc (.cells #[.int .i64 x.W, .int .u64 x.Hi, .int .u64 x.Lo] 45)) := (Below.refl _ _).alloc (Nat.le_refl _) _
  have hC : CL w w.heap.size p x (a.vals A n c B m d) (w.alloc (.cells #[.int .i64 x.W, .int .u64 x.Hi, .int .u64 x.Lo] 45)) := ⟨heap_alloc_new _ _, heapOld _ _ _ _ hp, hB1⟩
  have HMAY : Aside (∀ V, CL w w.heap.size p x (a.vals A n c B m d) V → Calls Try.prog 20 #[.pointer (some ⟨p, 0, none⟩)] V fun e w' => e = .returned (.bool false) ∧ Below V.heap.size V w') := by
    intro V hV
    have := may_any a hw A n c B m d p V (hR.below hV.below) (hS.below hV.below) hV.hp
    rwa [hok] at this
  have HCHK : Aside (∀ V, Calls Try.prog 27 #[x.v] V fun e w' => e = .returned (.bool x.okB) ∧ Below V.heap.size V w') := fun V => check_any x hxw V
  have HCL : Aside (∀ (V : World), CL w w.heap.size p x (a.vals A n c B m d) V → (V.cell? ⟨w.heap.size, 0, none⟩ = some (.int .i64 x.W) ∧ V.cell? ⟨w.heap.size, 1, none⟩ = some (.int .u64 x.Hi) ∧ V.cell? ⟨w.heap.size, 2, none⟩ = some (.int .u64 x.Lo)) ∧ (V.cell? ⟨p, 1, none⟩ = some (.int .u8 a.kd) ∧ V.cell? ⟨p, 5, none⟩ = some (.slice A n c) ∧ V.cell? ⟨p, 6, none⟩ = some (.slice B m d))) :=
    fun V h => ⟨⟨cellOf h.hx 0, cellOf h.hx 1, cellOf h.hx 2⟩, cellOf h.hp 1, cellOf h.hp 5, cellOf h.hp 6⟩
  obtain ⟨⟨k0, k1, k2⟩, k3, k5, k6⟩ := HCL.out _ hC
  have HC := aside1 hC
  clear hC hB1 hR hS hp hw hxw hok
  obtain ⟨xW, xh, xl⟩ := x
  unfold Num.v at *
  simp only at *
  generalize a.vals A n c B m d = vals at *
  generalize a.kd = kd at *
  go_enter Try.func21, Try.ntmps21
  go_wp2_with fail
  refine Calls.mono (HMAY.out _ HC.out) ?_
  rintro e w1 ⟨rfl, hb1⟩
  have hC1 := HC.out.next hb1
  clear k0 k1 k2 k3 k5 k6
  obtain ⟨⟨k0, k1, k2⟩, k3, k5, k6⟩ := HCL.out _ hC1
  go_wp2_with fail
  go_ret3
  exact ⟨rfl, hC1.below⟩
set_option maxRecDepth 100000 in
set_option maxHeartbeats 4000000 in
theorem cell_e2 (a : Arr) (hw : a.wf) (A : Option Addr) (n c : Nat) (B : Option Addr) (m d p : Nat) (kk : Int) (x : Num) (hxw : x.wf) (hok : a.okB = true) (hkk : ¬ a.kd = kk) (w : World) (hR : ReadsNums w A n a.cs) (hS : Reads w .i64 B m a.ls) (hp : w.heap[p]? = some (.cells (a.vals A n c B m d) 63 (0, 0))) :
    Calls Try.prog 21 #[.pointer (some ⟨p, 0, none⟩), .int .u8 kk, x.v] w fun e w' => e = .returned (.tuple #[.pointer none, .int .i64 0, .int .i64 1]) ∧ Below w.heap.size w w' := by
  have hB1 : Below w.heap.size w (w.alloc (.cells #[.int .i64 x.W, .int .u64 x.Hi, .int .u64 x.Lo] 45)) := (Below.refl _ _).alloc (Nat.le_refl _) _
  have hC : CL w w.heap.size p x (a.vals A n c B m d) (w.alloc (.cells #[.int .i64 x.W, .int .u64 x.Hi, .int .u64 x.Lo] 45)) := ⟨heap_alloc_new _ _, heapOld _ _ _ _ hp, hB1⟩
  have HMAY : Aside (∀ V, CL w w.heap.size p x (a.vals A n c B m d) V → Calls Try.prog 20 #[.pointer (some ⟨p, 0, none⟩)] V fun e w' => e = .returned (.bool true) ∧ Below V.heap.size V w') := by
    intro V hV
    have := may_any a hw A n c B m d p V (hR.below hV.below) (hS.below hV.below) hV.hp
    rwa [hok] at this
  have HCHK : Aside (∀ V, Calls Try.prog 27 #[x.v] V fun e w' => e = .returned (.bool x.okB) ∧ Below V.heap.size V w') := fun V => check_any x hxw V
  have HCL : Aside (∀ (V : World), CL w w.heap.size p x (a.vals A n c B m d) V → (V.cell? ⟨w.heap.size, 0, none⟩ = some (.int .i64 x.W) ∧ V.cell? ⟨w.heap.size, 1, none⟩ = some (.int .u64 x.Hi) ∧ V.cell? ⟨w.heap.size, 2, none⟩ = some (.int .u64 x.Lo)) ∧ (V.cell? ⟨p, 1, none⟩ = some (.int .u8 a.kd) ∧ V.cell? ⟨p, 5, none⟩ = some (.slice A n c) ∧ V.cell? ⟨p, 6, none⟩ = some (.slice B m d))) :=
    fun V h => ⟨⟨cellOf h.hx 0, cellOf h.hx 1, cellOf h.hx 2⟩, cellOf h.hp 1, cellOf h.hp 5, cellOf h.hp 6⟩
  obtain ⟨⟨k0, k1, k2⟩, k3, k5, k6⟩ := HCL.out _ hC
  have HC := aside1 hC
  clear hC hB1 hR hS hp hw hxw hok
  obtain ⟨xW, xh, xl⟩ := x
  unfold Num.v at *
  simp only at *
  generalize a.vals A n c B m d = vals at *
  generalize a.kd = kd at *
  have hkb : (kd != kk) = true := by simp [hkk]
  go_enter Try.func21, Try.ntmps21
  go_wp2_with fail
  refine Calls.mono (HMAY.out _ HC.out) ?_
  rintro e w1 ⟨rfl, hb1⟩
  have hC1 := HC.out.next hb1
  clear k0 k1 k2 k3 k5 k6
  obtain ⟨⟨k0, k1, k2⟩, k3, k5, k6⟩ := HCL.out _ hC1
  go_wp2_with fail
  go_ret3
  exact ⟨rfl, hC1.below⟩
set_option maxRecDepth 100000 in
set_option maxHeartbeats 4000000 in
theorem cell_e3 (a : Arr) (hw : a.wf) (A : Option Addr) (n c : Nat) (B : Option Addr) (m d p : Nat) (kk : Int) (x : Num) (hxw : x.wf) (hok : a.okB = true) (hxo : x.okB = false) (w : World) (hR : ReadsNums w A n a.cs) (hS : Reads w .i64 B m a.ls) (hp : w.heap[p]? = some (.cells (a.vals A n c B m d) 63 (0, 0))) :
    Calls Try.prog 21 #[.pointer (some ⟨p, 0, none⟩), .int .u8 a.kd, x.v] w fun e w' => e = .returned (.tuple #[.pointer none, .int .i64 0, .int .i64 1]) ∧ Below w.heap.size w w' := by
  have hB1 : Below w.heap.size w (w.alloc (.cells #[.int .i64 x.W, .int .u64 x.Hi, .int .u64 x.Lo] 45)) := (Below.refl _ _).alloc (Nat.le_refl _) _
  have hC : CL w w.heap.size p x (a.vals A n c B m d) (w.alloc (.cells #[.int .i64 x.W, .int .u64 x.Hi, .int .u64 x.Lo] 45)) := ⟨heap_alloc_new _ _, heapOld _ _ _ _ hp, hB1⟩
  have HMAY : Aside (∀ V, CL w w.heap.size p x (a.vals A n c B m d) V → Calls Try.prog 20 #[.pointer (some ⟨p, 0, none⟩)] V fun e w' => e = .returned (.bool true) ∧ Below V.heap.size V w') := by
    intro V hV
    have := may_any a hw A n c B m d p V (hR.below hV.below) (hS.below hV.below) hV.hp
    rwa [hok] at this
  have HCHK : Aside (∀ V, Calls Try.prog 27 #[x.v] V fun e w' => e = .returned (.bool x.okB) ∧ Below V.heap.size V w') := fun V => check_any x hxw V
  have HCL : Aside (∀ (V : World), CL w w.heap.size p x (a.vals A n c B m d) V → (V.cell? ⟨w.heap.size, 0, none⟩ = some (.int .i64 x.W) ∧ V.cell? ⟨w.heap.size, 1, none⟩ = some (.int .u64 x.Hi) ∧ V.cell? ⟨w.heap.size, 2, none⟩ = some (.int .u64 x.Lo)) ∧ (V.cell? ⟨p, 1, none⟩ = some (.int .u8 a.kd) ∧ V.cell? ⟨p, 5, none⟩ = some (.slice A n c) ∧ V.cell? ⟨p, 6, none⟩ = some (.slice B m d))) :=
    fun V h => ⟨⟨cellOf h.hx 0, cellOf h.hx 1, cellOf h.hx 2⟩, cellOf h.hp 1, cellOf h.hp 5, cellOf h.hp 6⟩
  obtain ⟨⟨k0, k1, k2⟩, k3, k5, k6⟩ := HCL.out _ hC
  have HC := aside1 hC
  clear hC hB1 hR hS hp hw hxw hok
  rw [hxo] at HCHK
  clear hxo
  obtain ⟨xW, xh, xl⟩ := x
  unfold Num.v at *
  simp only at *
  generalize a.vals A n c B m d = vals at *
  generalize a.kd = kd at *
  go_enter Try.func21, Try.ntmps21
  go_wp2_with fail
  refine Calls.mono (HMAY.out _ HC.out) ?_
  rintro e w1 ⟨rfl, hb1⟩
  have hC1 := HC.out.next hb1
  clear k0 k1 k2 k3 k5 k6
  obtain ⟨⟨k0, k1, k2⟩, k3, k5, k6⟩ := HCL.out _ hC1
  go_wp2_with fail
  refine Calls.mono (HCHK.out _) ?_
  rintro e w2 ⟨rfl, hb2⟩
  have hC2 := hC1.next hb2
  clear k0 k1 k2 k3 k5 k6
  obtain ⟨⟨k0, k1, k2⟩, k3, k5, k6⟩ := HCL.out _ hC2
  go_wp2_with fail
  go_ret3
  exact ⟨rfl, hC2.below⟩
set_option maxRecDepth 100000 in
set_option maxHeartbeats 4000000 in
theorem cell_e4 (a : Arr) (hw : a.wf) (A : Option Addr) (n c : Nat) (B : Option Addr) (m d p : Nat) (kk : Int) (x : Num) (hxw : x.wf) (hok : a.okB = true) (hxo : x.okB = true) (hh : ¬ x.Hi = 0) (w : World) (hR : ReadsNums w A n a.cs) (hS : Reads w .i64 B m a.ls) (hp : w.heap[p]? = some (.cells (a.vals A n c B m d) 63 (0, 0))) :
    Calls Try.prog 21 #[.pointer (some ⟨p, 0, none⟩), .int .u8 a.kd, x.v] w fun e w' => e = .returned (.tuple #[.pointer none, .int .i64 0, .int .i64 11]) ∧ Below w.heap.size w w' := by
  have hB1 : Below w.heap.size w (w.alloc (.cells #[.int .i64 x.W, .int .u64 x.Hi, .int .u64 x.Lo] 45)) := (Below.refl _ _).alloc (Nat.le_refl _) _
  have hC : CL w w.heap.size p x (a.vals A n c B m d) (w.alloc (.cells #[.int .i64 x.W, .int .u64 x.Hi, .int .u64 x.Lo] 45)) := ⟨heap_alloc_new _ _, heapOld _ _ _ _ hp, hB1⟩
  have HMAY : Aside (∀ V, CL w w.heap.size p x (a.vals A n c B m d) V → Calls Try.prog 20 #[.pointer (some ⟨p, 0, none⟩)] V fun e w' => e = .returned (.bool true) ∧ Below V.heap.size V w') := by
    intro V hV
    have := may_any a hw A n c B m d p V (hR.below hV.below) (hS.below hV.below) hV.hp
    rwa [hok] at this
  have HCHK : Aside (∀ V, Calls Try.prog 27 #[x.v] V fun e w' => e = .returned (.bool x.okB) ∧ Below V.heap.size V w') := fun V => check_any x hxw V
  have HCL : Aside (∀ (V : World), CL w w.heap.size p x (a.vals A n c B m d) V → (V.cell? ⟨w.heap.size, 0, none⟩ = some (.int .i64 x.W) ∧ V.cell? ⟨w.heap.size, 1, none⟩ = some (.int .u64 x.Hi) ∧ V.cell? ⟨w.heap.size, 2, none⟩ = some (.int .u64 x.Lo)) ∧ (V.cell? ⟨p, 1, none⟩ = some (.int .u8 a.kd) ∧ V.cell? ⟨p, 5, none⟩ = some (.slice A n c) ∧ V.cell? ⟨p, 6, none⟩ = some (.slice B m d))) :=
    fun V h => ⟨⟨cellOf h.hx 0, cellOf h.hx 1, cellOf h.hx 2⟩, cellOf h.hp 1, cellOf h.hp 5, cellOf h.hp 6⟩
  obtain ⟨⟨k0, k1, k2⟩, k3, k5, k6⟩ := HCL.out _ hC
  have HC := aside1 hC
  clear hC hB1 hR hS hp hw hxw hok
  rw [hxo] at HCHK
  clear hxo
  obtain ⟨xW, xh, xl⟩ := x
  unfold Num.v at *
  simp only at *
  generalize a.vals A n c B m d = vals at *
  generalize a.kd = kd at *
  have hhb : (xh != 0) = true := by simp [hh]
  go_enter Try.func21, Try.ntmps21
  go_wp2_with fail
  refine Calls.mono (HMAY.out _ HC.out) ?_
  rintro e w1 ⟨rfl, hb1⟩
  have hC1 := HC.out.next hb1
  clear k0 k1 k2 k3 k5 k6
  obtain ⟨⟨k0, k1, k2⟩, k3, k5, k6⟩ := HCL.out _ hC1
  go_wp2_with fail
  refine Calls.mono (HCHK.out _) ?_
  rintro e w2 ⟨rfl, hb2⟩
  have hC2 := hC1.next hb2
  clear k0 k1 k2 k3 k5 k6
  obtain ⟨⟨k0, k1, k2⟩, k3, k5, k6⟩ := HCL.out _ hC2
  go_wp2_with fail
  go_quiet (fail)
  have hC3 := hC2.next (below_drewN (Below.refl _ _) nq)
  go_wp2
  go_ret3
  exact ⟨rfl, hC3.below⟩
/-- The error of a cell's place. -/
def Arr.cellE (a : Arr) (k : Int) (x : Num) : Int := if a.okB = true ∧ a.kd = k ∧ x.okB = true then (if x.Hi = 0 ∧ x.Lo < a.cs.length then 0 else 11) else 1
theorem cell_err (a : Arr) (hw : a.wf) (A : Option Addr) (n c : Nat) (B : Option Addr) (m d p : Nat) (hBd : B = none → d = 0) (kk : Int) (x : Num) (hxw : x.wf) (w : World) (hR : ReadsNums w A n a.cs) (hS : Reads w .i64 B m a.ls) (hp : w.heap[p]? = some (.cells (a.vals A n c B m d) 63 (0, 0)))
    (hAp : ∀ ad, A = some ad → 0 < n → ad.block ≠ p) (hBp : ∀ ad, B = some ad → 0 < m → ad.block ≠ p) (er : Int) (he : a.cellE kk x = er) (he0 : ¬ er = 0) :
    Calls Try.prog 21 #[.pointer (some ⟨p, 0, none⟩), .int .u8 kk, x.v] w fun e w' => e = .returned (.tuple #[.pointer none, .int .i64 0, .int .i64 er]) ∧ Below w.heap.size w w' := by
  unfold Arr.cellE at he
  by_cases h1 : a.okB = true
  · by_cases h2 : a.kd = kk
    · subst h2
      by_cases h3 : x.okB = true
      · rw [if_pos ⟨h1, rfl, h3⟩] at he
        by_cases h4 : x.Hi = 0
        · by_cases h5 : x.Lo < a.cs.length
          · rw [if_pos ⟨h4, h5⟩] at he; exact absurd he.symm he0
          · rw [if_neg (fun h => h5 h.2)] at he
            subst he
            obtain ⟨k, hk⟩ := Int.eq_ofNat_of_zero_le hxw.2.2.1
            have hkn : n ≤ k := by rw [← hR.1]; omega
            exact cell_out a (a.ok_of hw h1) A n c B m d p k hBd x hxw (x.okB_iff.1 h3) h4 hk hkn (by have := hxw.2.2.2; omega) w hR hS hp hAp hBp
        · rw [if_neg (fun h => h4 h.1)] at he
          subst he
          exact cell_e4 a hw A n c B m d p 0 x hxw h1 h3 h4 w hR hS hp
      · rw [if_neg (fun h => h3 h.2.2)] at he
        subst he
        exact cell_e3 a hw A n c B m d p 0 x hxw h1 (by cases h : x.okB; rfl; exact absurd h h3) w hR hS hp
    · rw [if_neg (fun h => h2 h.2.1)] at he
      subst he
      exact cell_e2 a hw A n c B m d p kk x hxw h1 h2 w hR hS hp
  · rw [if_neg (fun h => h1 h.1)] at he
    subst he
    exact cell_e1 a hw A n c B m d p kk x hxw (by cases h : a.okB; rfl; exact absurd h h1) w hR hS hp
end Go.Proofs.Ytanimonhnngfkaa.Own
