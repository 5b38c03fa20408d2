/-
  A book beside other work: its zone, its lists' going on, one list more.
-/
import Derived.Test.YtdgilloblfbklabGreatDoorB3A
set_option linter.unusedVariables false
set_option linter.unusedSimpArgs false
namespace Go.Proofs.YtdgilloblfbklabGreatDoor.Own
open Go.RowKit

theorem wpList_seen {P : Program} {ops : Array Oper} {rest : List Oper} {a : Act} {Q : Exit → Act → World → Prop} {W : World} (h : ∀ V, V = W → wpList P ops Q rest a V) : wpList P ops Q rest a W := h W rfl
theorem own_base' {W : World} {base base' n : Nat} {e : TypeId} {size : Nat} {v : Value} {xs : List Value} (ho : W.ownsRow base e size v n xs) (hb : base' ≤ base) : W.ownsRow base' e size v n xs := by
  refine ⟨ho.1, ho.2.elim .inl ?_⟩
  rintro ⟨g, cap, cur, h1, h2, r⟩
  exact .inr ⟨g, cap, cur, h1, Nat.le_trans hb h2, r⟩
theorem own_block (W : World) (base g : Nat) (xs : List Int) (n : Nat) (hn : xs.length = n) (hm : n ≤ 9223372036854775807) (hb : base ≤ g) (h : W.heap[g]? = some (.cells (nums .u8 xs).toArray 5 (0, 0))) : W.ownsRow base 5 1 (.slice (some ⟨g, 0, none⟩) n n) n (nums .u8 xs) :=
  ⟨by simp [nums, hn], .inr ⟨g, n, _, rfl, hb, h, Nat.le_refl _, by simpa [maxLen] using hm, by simp [nums, hn], by rw [List.toList_toArray, List.take_of_length_le (by simp [nums, hn])]⟩⟩
theorem own_lt {w : World} {base n : Nat} {e : TypeId} {size : Nat} {v : Value} {xs : List Value} (h : w.ownsRow base e size v n xs) : ∀ k, v.ownBlock = some k → base ≤ k ∧ k < w.heap.size := by
  intro k hk
  rcases h.2 with ⟨rfl, _⟩ | ⟨g, cap, cur, rfl, h1, h2, _⟩
  · simp [Value.ownBlock] at hk
  · simp only [Value.ownBlock, Option.some.injEq] at hk
    subst hk
    exact ⟨h1, (Array.getElem?_eq_some_iff.1 h2).1⟩
theorem bytes_keep (base b : Nat) (row : Value) (ps : List (Value × Value)) (F : Nat → Nat → Prop) (A : Option Addr) (n c : Nat) (Fv : Nat → Prop) (W : World) (h : Bk W base b row ps F) (hN : ps.length ≤ 1000000000)
    (h1 : ∀ k, Fv k → base ≤ k ∧ k < W.heap.size ∧ k ≠ b ∧ row.ownBlock ≠ some k) (h2 : ∀ i k, F i k → ¬ Fv k) :
    Calls Tryz.prog 13 #[.pointer (some ⟨b, 0, none⟩), .slice A n c] W (Kept base b row (.slice A n c) ps F Fv W) := by
  have HK := aside' (keep_any base b row ps F A n c Fv W h hN h1 h2)
  clear h h1 h2
  go_enter Tryz.func13, Tryz.ntmps13
  go_wp2_with fail
  refine Calls.mono HK.out ?_
  rintro e w' ⟨⟨u, rfl⟩, hk⟩
  go_wp2
  go_end0
  exact ⟨⟨_, rfl⟩, hk⟩
/-- The book's block, when it was written down whole; F: the blocks that are kept apart from it. -/
theorem Bk.freshF (W : World) (base : Nat) (F : Nat → Nat → Prop) (hb : base ≤ W.heap.size) (h1 : ∀ i k, F i k → base ≤ k ∧ k < W.heap.size) (h2 : ∀ i j k, F i k → F j k → i = j) : Bk ((W.alloc (.cells (bookCells 0 (.slice none 0 0)) 70)).setRow W.heap.size (bookCells 0 (.slice none 0 0))) base W.heap.size (.slice none 0 0) [] F ∧
    Foot (fun _ => False) W ((W.alloc (.cells (bookCells 0 (.slice none 0 0)) 70)).setRow W.heap.size (bookCells 0 (.slice none 0 0))) :=
  ⟨⟨setRow_heap _ _ _ _ _ _ (heap_alloc_new W _), World.ownsRow_nil _ _ _ _, by simp [Value.ownBlock], hb, fun i k h => ⟨(h1 i k h).1, by have := (h1 i k h).2; simp; omega, by have := (h1 i k h).2; omega, by simp [Value.ownBlock]⟩, h2⟩,
   ⟨rfl, rfl, rfl, by simp, fun k hk _ => (setRow_other _ _ k _ (by omega)).trans (Below.heap_alloc W _ k hk)⟩⟩
/-- The zone of a book: what it writes or holds. -/
def Zo (b : Nat) (row : Value) (F : Nat → Nat → Prop) (q : Nat) : Prop := q = b ∨ row.ownBlock = some q ∨ ∃ i, F i q
/-- A book and its lists. -/
structure Bs (W : World) (base b : Nat) (row : Value) (ps : List (Value × Value)) (F : Nat → Nat → Prop) (ns : Nat → Nat) : Prop where
  bk : Bk W base b row ps F
  fi : Fill W base ps ns F 0
  hn : ∀ j, ns j ≤ 140737488355200
section
variable {W W' : World} {base b : Nat} {row : Value} {ps : List (Value × Value)} {F : Nat → Nat → Prop} {ns : Nat → Nat}
theorem Bs.lt (h : Bs W base b row ps F ns) (q : Nat) (hq : Zo b row F q) : base ≤ q ∧ q < W.heap.size := by
  rcases hq with rfl | hq | ⟨i, hq⟩
  · exact ⟨h.bk.bb, (Array.getElem?_eq_some_iff.1 h.bk.hb).1⟩
  · exact own_lt h.bk.hr q hq
  · exact ⟨(h.bk.fl i q hq).1, (h.bk.fl i q hq).2.1⟩
/-- Work that leaves the book's zone alone. -/
theorem Bs.foot {G : Nat → Prop} (h : Bs W base b row ps F ns) (hf : Foot G W W') (hG : ∀ q, Zo b row F q → ¬ G q) : Bs W' base b row ps F ns :=
  ⟨h.bk.foot hf (hG b (.inl rfl)) (fun q hq => hG q (.inr (.inl hq))), h.fi.foot hf (fun j q hq => hG q (.inr (.inr ⟨j, hq⟩))), h.hn⟩
theorem Bs.later (h : Bs W base b row ps F ns) (hb : Below W.heap.size W W') : Bs W' base b row ps F ns := h.foot (Foot.ofBelow hb (fun _ => False)) (fun _ _ h => h)
theorem L1.mono {n : Nat} {v : Value} {G H : Nat → Prop} (h : L1 W base G v n) (hm : ∀ k, G k → H k) : L1 W base H v n := by
  obtain ⟨xs, h1, h2⟩ := h
  exact ⟨xs, h1, fun k hk => hm k (h2 k hk)⟩
/-- One list more, a row of its own in blocks apart. -/
theorem Bs.keep {A : Option Addr} {n c base2 : Nat} {xs : List Int} (h : Bs W base b row ps F ns) (hN : ps.length ≤ 1000000000) (hb2 : base ≤ base2) (ho : FRow W base2 (.slice A n c) n xs) (hn : n ≤ 140737488355200) (hz : ∀ q, (Value.slice A n c).ownBlock = some q → ¬ Zo b row F q) :
    Calls Tryz.prog 13 #[.pointer (some ⟨b, 0, none⟩), .slice A n c] W fun e w' => (∃ u, e = .returned u) ∧ ∃ row' F' ns', Bs w' base b row' (ps ++ [(.slice A n c, .slice none 0 0)]) F' ns' ∧ Foot (Zo b row F) W w' ∧ ∀ q, Zo b row' F' q → Zo b row F q ∨ (Value.slice A n c).ownBlock = some q ∨ W.heap.size ≤ q := by
  have hlt := ho.lt
  refine (bytes_keep base b row ps F A n c (fun q => (Value.slice A n c).ownBlock = some q) W h.bk hN (fun q hq => ⟨Nat.le_trans hb2 (hlt q hq).1, (hlt q hq).2, fun e => hz q hq (.inl e), fun e => hz q hq (.inr (.inl e))⟩) (fun i q hq hv => hz q hv (.inr (.inr ⟨i, hq⟩)))).mono ?_
  rintro e w' ⟨hu, row', hk, hf, hr⟩
  refine ⟨hu, row', _, fun j => if j = ps.length then n else ns j, ⟨hk, ?_, ?_⟩, hf.mono (fun q _ hq => hq.elim .inl (fun h => .inr (.inl h))), ?_⟩
  · intro j p hp
    rcases Nat.lt_or_ge j ps.length with hj | hj
    · rw [List.getElem?_append_left hj] at hp
      obtain ⟨h1, _, h3⟩ := h.fi j p hp
      refine ⟨h1, fun h => by omega, fun _ => ?_⟩
      show L1 w' base _ p.1 (if j = ps.length then n else ns j)
      rw [if_neg (by omega)]
      exact ((h3 (Nat.zero_le _)).foot hf (fun q hq hq' => by have := h.bk.fl j q hq; exact hq'.elim this.2.2.1 this.2.2.2)).mono (fun q hq => .inl hq)
    · rw [List.getElem?_append_right hj] at hp
      have hj0 : j = ps.length := by
        rcases Nat.eq_or_lt_of_le hj with e | h
        · exact e.symm
        · rw [List.getElem?_eq_none (by simp; omega)] at hp; cases hp
      subst hj0
      simp at hp
      subst hp
      refine ⟨rfl, fun h => by omega, fun _ => ?_⟩
      show L1 w' base _ (.slice A n c) (if ps.length = ps.length then n else ns ps.length)
      rw [if_pos rfl]
      exact ⟨xs, (ho.base_ hb2).foot hf (fun q hq hq' => hq'.elim (fun e => hz q hq (.inl e)) (fun e => hz q hq (.inr (.inl e)))), fun q hq => .inr ⟨rfl, hq⟩⟩
  · intro j
    split
    · exact hn
    · exact h.hn j
  · rintro q (rfl | hq | ⟨i, hq | ⟨_, hq⟩⟩)
    · exact .inl (.inl rfl)
    · exact (hr q hq).imp (fun h => .inr (.inl h)) .inr
    · exact .inl (.inr (.inr ⟨i, hq⟩))
    · exact .inr (.inl hq)
theorem Bs.apart (h : Bs W base b row ps F ns) (hN : ps.length ≤ 1000000000) :
    Calls Tryz.prog 16 #[.pointer (some ⟨b, 0, none⟩)] W fun e w' => e = .returned (.bool true) ∧ Foot (Zo b row F) W w' :=
  (apart_any base b row ps ns F W h.bk hN h.hn h.fi).mono fun e w' ⟨he, hf⟩ => ⟨he, hf.mono (fun q _ hq => .inr hq)⟩
end
/-- An empty book. -/
theorem Bs.zero (W : World) (base : Nat) (hb : base ≤ W.heap.size) : Bs ((W.alloc (.cells (bookCells 0 (.slice none 0 0)) 70)).setRow W.heap.size (bookCells 0 (.slice none 0 0))) base W.heap.size (.slice none 0 0) [] (fun _ _ => False) (fun _ => 0) ∧
    Foot (fun _ => False) W ((W.alloc (.cells (bookCells 0 (.slice none 0 0)) 70)).setRow W.heap.size (bookCells 0 (.slice none 0 0))) :=
  have h := Bk.freshF W base (fun _ _ => False) hb (fun _ _ h => h.elim) (fun _ _ _ h => h.elim)
  ⟨⟨h.1, fun j p hp => by simp at hp, fun _ => by omega⟩, h.2⟩
end Go.Proofs.YtdgilloblfbklabGreatDoor.Own
