/-
  A range over a function whose iterator reads memory of its own and of its caller's: what a round keeps.
-/
import Derived.RangeFuncNested
import Derived.RangeFuncBound
import Derived.RangeFuncCalls
import Derived.RangeFuncLeaves
import Derived.Shelf.Abstract
import Derived.Shelf.RegionOpen
import Derived.OwnWalkIn
import Derived.TacticsInMore
import Derived.LoopNIn
import Derived.LoopIn
import Derived.Test.YtdgilloblfbklabGreatDoorLib
set_option linter.unusedVariables false
set_option linter.unusedSimpArgs false
namespace Go.Proofs.YtdgilloblfbklabGreatDoor.Own
open Go.RowKit

/-- Behind a round all cells that lay there and are none of F's lie as they lay. -/
structure KeepC (F : Nat → Prop) (W W' : World) : Prop where
  os : W'.os = W.os
  tape : W'.tape = W.tape
  output : W'.output = W.output
  size : W.heap.size ≤ W'.heap.size
  block : ∀ (k : Nat) (cs : Array Value) (t : TypeId) (fr : Nat × Nat), W.heap[k]? = some (.cells cs t fr) → ¬ F k → W'.heap[k]? = some (.cells cs t fr)
theorem KeepC.refl (F : Nat → Prop) (W : World) : KeepC F W W := ⟨rfl, rfl, rfl, Nat.le_refl _, fun _ _ _ _ h _ => h⟩
theorem KeepC.trans {F : Nat → Prop} {A B C : World} (h : KeepC F A B) (k : KeepC F B C) : KeepC F A C :=
  ⟨k.os.trans h.os, k.tape.trans h.tape, k.output.trans h.output, Nat.le_trans h.size k.size, fun i cs t fr hi hF => k.block i cs t fr (h.block i cs t fr hi hF) hF⟩
theorem KeepC.ofFoot {F : Nat → Prop} {A B : World} (h : Foot F A B) : KeepC F A B :=
  ⟨h.os, h.tape, h.output, h.size, fun i cs t fr hi hF => (h.block i (Array.getElem?_eq_some_iff.1 hi).1 hF).trans hi⟩
/-- The law's own book-keeping. -/
theorem KeepC.putObj {F : Nat → Prop} (W : World) (l : Nat) (o o' : Obj) (h : W.heap[l]? = some o) (hc : o.isCells = false) : KeepC F W (W.putObj l o') :=
  ⟨rfl, rfl, rfl, by simp, fun k cs t fr hk hF => by
    rw [World.putObj_heap_other (by rintro rfl; rw [hk] at h; cases h; cases hc)]; exact hk⟩
theorem keepC_b (F : Nat → Prop) (w : World) (W : World) (l : Nat) (o o' : Obj) (_ : w.heap.size ≤ l) (h : W.heap[l]? = some o) (hc : o.isCells = false) (_ : o.isWalk = false) : KeepC F W (W.putObj l o') := KeepC.putObj W l o o' h hc
theorem KeepC.cell {F : Nat → Prop} {A B : World} (h : KeepC F A B) {p : Addr} {v : Value} (hc : A.cell? p = some v) (hF : ¬ F p.block) : B.cell? p = some v := by
  have hh : ∃ cs t fr, A.heap[p.block]? = some (.cells cs t fr) := by
    rcases hh : A.heap[p.block]? with _ | o
    · simp [World.cell?, hh] at hc
    · cases o with
      | cells cs t fr => exact ⟨cs, t, fr, rfl⟩
      | _ => simp [World.cell?, hh] at hc
  obtain ⟨cs, t, fr, hk⟩ := hh
  exact (World.cell?_of_block (w := A) ((h.block _ cs t fr hk hF).trans hk.symm)).trans hc
theorem KeepC.row {F : Nat → Prop} {A B : World} (h : KeepC F A B) {base : Nat} {e : TypeId} {size : Nat} {v : Value} {n : Nat} {xs : List Value} (ho : A.ownsRow base e size v n xs) (hF : ∀ k, v.ownBlock = some k → ¬ F k) : B.ownsRow base e size v n xs := by
  obtain ⟨h1, h2⟩ := ho
  refine ⟨h1, ?_⟩
  rcases h2 with h2 | ⟨g, cap, cur, hv, hg, hh, r⟩
  · exact .inl h2
  · exact .inr ⟨g, cap, cur, hv, hg, h.block _ _ _ _ hh (hF g (by rw [hv]; rfl)), r⟩
theorem KeepC.alloc {F : Nat → Prop} {A B : World} (h : KeepC F A B) (o : Obj) : KeepC F A (B.alloc o) := h.trans (KeepC.ofFoot ((Foot.refl F B).alloc o))
theorem KeepC.drew {F : Nat → Prop} {A B : World} (h : KeepC F A B) : KeepC F A B.drew := h.trans (KeepC.ofFoot ((Foot.refl F B).drew))
theorem KeepC.drewN {F : Nat → Prop} {A B : World} (h : KeepC F A B) (n : Nat) : KeepC F A (B.drewN n) := h.trans (KeepC.ofFoot ((Foot.refl F B).drewN n))
theorem KeepC.mono {F G : Nat → Prop} {A B : World} (h : KeepC F A B) (hG : ∀ k, F k → G k) : KeepC G A B := ⟨h.os, h.tape, h.output, h.size, fun k cs t fr hk hF => h.block k cs t fr hk (fun f => hF (hG k f))⟩

variable {F : Fence} {n : Nat} {P : Program}
/-- The law of the range, the frame of a round being found by the walk itself. -/
theorem range_own {α : Type} {g : Operand} {ps : Array Tmp} {assign body : Code} {Q : Exit → Act → World → Prop} {a : Act} {w : World}
    (hro : F.round = none) (h1 : 1 ≤ n) {gf : Nat} {lb : Array Value} (hg : a.eval g = .func (.func gf) #[] lb) (hFg : F.fn gf) (eg : ∀ args w, (callFunc gf args).run P w = .ok (.enter gf args) w)
    {encs : α → Array Value} {Kp : World → World → Prop} {S Sp : List α → Prop} {N : Nat} {w0 : World} (hseq : SeqStopsK F (n - 1) P gf lb encs Kp S Sp N w0)
    (hKt : ∀ {A B C : World}, Kp A B → Kp B C → Kp A C) (hKb : ∀ (W : World) (l : Nat) (o o' : Obj), w.heap.size ≤ l → W.heap[l]? = some o → o.isCells = false → o.isWalk = false → Kp W (W.putObj l o')) (hb0 : Below w0.heap.size w0 w) (hps : ∀ x, (encs x).size = ps.size)
    (I : List α → World → Prop) (Ix : Code → List α → World → Prop) (hI : OwnFrom w.heap.size I) (hIx : ∀ c, OwnFrom w.heap.size (Ix c)) (h0 : I [] w)
    (hround : ∀ x : α, ∃ a1 : Act, (∀ (l : Nat) (W : World) (K : Act → World → Prop), K a1 W →
        assign.wpIn (F.inRound l) (n - 1 - 1) P (Exit.then K (fun _ _ _ => False)) { tmps := (ps.zip (encs x)).foldl (fun t (p, v) => t.setIfInBounds p v) a.tmps, defers := [] } W) ∧
      ∀ (l : Nat) (pre : List α) (W : World), I pre W → pre.length < N → body.wpIn (F.inRound l) (n - 1 - 1) P (ownPostK Kp I Ix (pre ++ [x]) W) a1 W)
    (hdone : ∀ (D : Nat) (xs : List α) (W : World), w.heap.size ≤ D → S xs → I xs W → W.heap[D]? = some (.deferred (some [])) → Q .normal { a with defers := { target := .collected D, args := #[] } :: a.defers } W)
    (hstop : ∀ (D : Nat) (c : Code) (pre : List α) (W : World), w.heap.size ≤ D → Sp pre → Ix c pre W → W.heap[D]? = some (.deferred (some [])) → c.wpIn F n P Q { a with defers := { target := .collected D, args := #[] } :: a.defers } W) :
    (Code.rangeFunc g ps assign body).wpIn F n P Q a w :=
  wpIn_rangeFunc_ownF hro h1 hg hFg eg hseq (fun h k => hKt h k) hKb hb0 hps I Ix hI hIx h0 (fun x => Classical.choose (hround x))
    (fun l x W K hK => (Classical.choose_spec (hround x)).1 l W K hK) (fun l pre x W hi hl => (Classical.choose_spec (hround x)).2 l pre W hi hl) hdone hstop
end Go.Proofs.YtdgilloblfbklabGreatDoor.Own
