/-
  A range over a function whose iterator writes its own captured variable: the law of the range where what is yielded is known.
-/
import Derived.Test.YtdgilloblfbklaaGreatDoorIter
set_option linter.unusedVariables false
set_option linter.unusedSimpArgs false
namespace Go.Proofs.YtdgilloblfbklaaGreatDoor
open Go.RowKit

/-- The iterator yields just these, one behind the other, and writes to no block that was there but Bn. -/
def SeqAt {α : Type} (F : Fence) (m : Nat) (P : Program) (gf : Nat) (lb : Array Value) (encs : α → Array Value) (Kp : World → World → Prop) (Bn : Nat) (xs : List α) (w : World) : Prop :=
  ∀ (l : Nat) (J : List α → World → Prop) (W : World), Below w.heap.size w W → w.heap.size ≤ l →
    (∀ pre A C, J pre A → Foot (fun k => k = Bn) A C → J pre C) →
    (∀ pre x A, J pre A → (pre ++ [x]) <+: xs → YieldAt F (m - 1) P l (encs x) A fun e C => e = .returned (.bool true) ∧ J (pre ++ [x]) C ∧ Kp A C) →
    J [] W → CallsIn F m P gf (#[.func (.yield l) #[] #[]] ++ lb) W fun e W' => (∃ v, e = .returned v) ∧ J xs W'

/-- How a round is left: it goes on. -/
def onPost (B : Nat) (Kp : World → World → Prop) (I : World → Prop) (W : World) : Exit → Act → World → Prop
  | .normal, _, W' => KeepsFrom B W W' ∧ Kp W W' ∧ I W'
  | _, _, _ => False

variable {F : Fence} {n : Nat} {P : Program}
theorem range_at {α : Type} {g : Operand} {ps : Array Tmp} {assign body : Code} {Q : Exit → Act → World → Prop} {a : Act} {w : World}
    (hro : F.round = none) (h1 : 1 ≤ n) {gf : Nat} {lb : Array Value} (hg : a.eval g = .func (.func gf) #[] lb) (hFg : F.fn gf) (eg : ∀ args w, (callFunc gf args).run P w = .ok (.enter gf args) w)
    {encs : α → Array Value} {Kp : World → World → Prop} {Bn : Nat} {xs : List α} (hseq : SeqAt F (n - 1) P gf lb encs Kp Bn xs w) (hBn : Bn < w.heap.size)
    (hKt : ∀ {A B C : World}, Kp A B → Kp B C → Kp A C) (hKb : ∀ (W : World) (l : Nat) (o o' : Obj), W.heap[l]? = some o → o.isCells = false → Kp W (W.putObj l o')) (hps : ∀ x, (encs x).size = ps.size)
    (I : List α → World → Prop) (hIf : ∀ pre A C, I pre A → Foot (fun k => k = Bn) A C → I pre C) (hIp : ∀ pre A l o o', I pre A → w.heap.size ≤ l → A.heap[l]? = some o → o.isCells = false → I pre (A.putObj l o')) (h0 : I [] w)
    (hround : ∀ x : α, ∃ a1 : Act, (∀ (l : Nat) (W : World) (K : Act → World → Prop), K a1 W →
        assign.wpIn (F.inRound l) (n - 1 - 1) P (Exit.then K (fun _ _ _ => False)) { tmps := (ps.zip (encs x)).foldl (fun t (p, v) => t.setIfInBounds p v) a.tmps, defers := [] } W) ∧
      ∀ (l : Nat) (pre : List α) (W : World), I pre W → (pre ++ [x]) <+: xs → body.wpIn (F.inRound l) (n - 1 - 1) P (onPost w.heap.size Kp (I (pre ++ [x])) W) a1 W)
    (hdone : ∀ (D : Nat) (W : World), w.heap.size ≤ D → I xs W → W.heap[D]? = some (.deferred (some [])) → Q .normal { a with defers := { target := .collected D, args := #[] } :: a.defers } W) :
    (Code.rangeFunc g ps assign body).wpIn F n P Q a w := by
  refine wpIn_rangeFunc ?_
  intro fn hfn
  rw [hro]
  obtain ⟨D, hD⟩ : ∃ D, D = w.heap.size := ⟨_, rfl⟩
  let rec_ : LoopState → Option Code → Loop := fun st pe => { state := st, pending := pe, fn, tmps := a.tmps, params := ps, assign, body, defers := D }
  obtain ⟨rc, hrc⟩ : ∃ rc, rc = rec_ := ⟨_, rfl⟩
  obtain ⟨V, hV⟩ : ∃ V, V = (w.alloc (.deferred (some []))).alloc (.loop (rc .ready none)) := ⟨_, rfl⟩
  have vL : V.heap[D + 1]? = some (.loop (rc .ready none)) := by
    rw [hV, hD]; have := World.alloc_heap_new (w.alloc (.deferred (some []))) (.loop (rc .ready none)); rwa [World.size_alloc] at this
  have vD : V.heap[D]? = some (.deferred (some [])) := by
    rw [hV, hD]; exact (Below.heap_alloc _ _ _ (by simp)).trans (World.alloc_heap_new w _)
  have vI : I [] V := by rw [hV]; exact hIf _ _ _ h0 (((Foot.refl _ w).alloc _).alloc _)
  have vB : Below w.heap.size w V := by rw [hV]; exact ((Below.refl _ w).alloc (Nat.le_refl _) _).alloc (by simp) _
  refine ⟨D + 1, [{ target := .collected D, args := #[] }], V, { target := .fn (.func gf) lb, args := #[.func (.yield (D + 1)) #[] #[]] }, V, gf, #[.func (.yield (D + 1)) #[] #[]] ++ lb, V, ?_, ?_, ?_, ?_, fun _ => h1, ?_⟩
  · rw [hV, hrc, hD]; simp only [rec_, hD]; exact run_enterLoop_outer _ _ _ _ _
  · simp only [resolve, hg]
    simp [go_sem]
  · intro f' hf'; simp [Target.leads] at hf'; subst hf'; exact hFg
  · simp [invoke, go_sem, eg]
  · refine (hseq (D + 1) (fun pre W => I pre W ∧ W.heap[D + 1]? = some (.loop (rc .ready none)) ∧ W.heap[D]? = some (.deferred (some []))) V vB (by omega)
      (fun pre A C h hf => ⟨hIf _ _ _ h.1 hf, hf.blk h.2.1 (by omega), hf.blk h.2.2 (by omega)⟩) ?_ ⟨vI, vL, vD⟩).mono ?_
    · rintro pre x W ⟨hi, hl, hk⟩ hpre
      have hlt : D + 1 < W.heap.size := (Array.getElem?_eq_some_iff.1 hl).1
      have hy := run_yield (P := P) (args := encs x) hl (by rw [hrc]; exact hps x)
      obtain ⟨a1, ha1, hb1⟩ := hround x
      rw [hrc] at hy
      refine ⟨fn, _, assign, body, hy, roundIn_of_wpIn hfn (ha1 _ W _ ⟨_, run_beginRound hl (by rw [hrc]), ?_⟩)⟩
      obtain ⟨U, hU⟩ : ∃ U, U = W.putObj (D + 1) (.loop { rc .ready none with state := .busy }) := ⟨_, rfl⟩
      have uL : U.heap[D + 1]? = some (.loop { rc .ready none with state := .busy }) := by rw [hU]; exact World.putObj_heap_same hlt
      have uD : U.heap[D]? = some (.deferred (some [])) := by rw [hU]; exact (World.putObj_heap_other (by omega)).trans hk
      have uI : I pre U := by rw [hU]; exact hIp _ _ _ _ _ hi (by omega) hl rfl
      have uK : Kp W U := by rw [hU]; exact hKb _ _ _ _ hl rfl
      have hbody := hb1 (D + 1) pre U uI hpre
      rw [hU] at hbody
      refine wpIn_mono hbody ?_
      rintro e a3 W3 hp
      rw [← hU] at hp
      cases e with
      | normal =>
        obtain ⟨hk3, hkp3, hi3⟩ := hp
        have l3 := hk3.same _ _ (by omega) uL rfl
        have d3 := hk3.same _ _ (by omega) uD rfl
        have hr := run_endRound (P := P) none l3
        have e3 : W3.putObj (D + 1) (.loop (rc .ready none)) = W3.putObj (D + 1) (.loop (rc .ready none)) := rfl
        rw [hrc] at hr ⊢
        refine ⟨_, _, hr, rfl, ⟨hIp _ _ _ _ _ hi3 (by omega) l3 rfl, World.putObj_heap_same (Array.getElem?_eq_some_iff.1 l3).1, (World.putObj_heap_other (by omega)).trans d3⟩, hKt (hKt uK hkp3) (hKb _ _ _ _ l3 rfl)⟩
      | _ => exact hp.elim
    · rintro e W2 ⟨⟨v, rfl⟩, hi, hl, hk⟩
      refine ⟨none, _, by have := run_endLoop (P := P) hl (by rw [hrc]; simp [rec_]); rw [hrc] at this; exact this, ?_⟩
      exact hdone D _ (by omega) (hIp _ _ _ _ _ hi (by omega) hl rfl) ((World.putObj_heap_other (by omega)).trans hk)
end Go.Proofs.YtdgilloblfbklaaGreatDoor
