/-
  A book of lists of bytes, as it lies in memory: a block of its own, a row of what is held, and each list's own blocks.
-/
import Derived.Test.YtdgilloblfbklabGreatDoorLib
import Derived.Test.YtdgilloblfbklabGreatDoorB3R
set_option linter.unusedVariables false
set_option linter.unusedSimpArgs false
namespace Go.Proofs.YtdgilloblfbklabGreatDoor.Own
open Go.RowKit

/-- The mark of the list of index i (its number is i + 1). -/
def mark (i : Nat) : Int := 1 + (((i + 1) % 250 : Nat) : Int)
theorem mark_bd (i : Nat) : 1 ≤ mark i ∧ mark i ≤ 250 := by unfold mark; omega
def flat3 : Nat → List (Value × Value) → List Value
  | _, [] => []
  | i, p :: ps => p.1 :: p.2 :: .int .i64 ((i : Int) + 1) :: flat3 (i + 1) ps
theorem flat3_length : ∀ (ps : List (Value × Value)) (i : Nat), (flat3 i ps).length = ps.length * 3
  | [], _ => rfl
  | p :: ps, i => by simp only [flat3, List.length_cons, flat3_length ps (i + 1)]; omega
theorem flat3_append : ∀ (a b : List (Value × Value)) (i : Nat), flat3 i (a ++ b) = flat3 i a ++ flat3 (i + a.length) b
  | [], b, i => by simp [flat3]
  | p :: a, b, i => by
    simp only [List.cons_append, flat3, flat3_append a b (i + 1), List.length_cons]
    rw [show i + 1 + a.length = i + (a.length + 1) by omega]
theorem flat3_get : ∀ (ps : List (Value × Value)) (i j : Nat) (p : Value × Value), ps[j]? = some p → (flat3 i ps)[j * 3]? = some p.1 ∧ (flat3 i ps)[j * 3 + 1]? = some p.2 ∧ (flat3 i ps)[j * 3 + 2]? = some (.int .i64 ((i : Int) + (j : Int) + 1))
  | [], i, j, p, h => by cases h
  | q :: ps, i, 0, p, h => by
    simp only [List.getElem?_cons_zero, Option.some.injEq] at h
    subst h
    simp [flat3]
  | q :: ps, i, j + 1, p, h => by
    have h' : ps[j]? = some p := by simpa using h
    obtain ⟨h1, h2, h3⟩ := flat3_get ps (i + 1) j p h'
    rw [show (j + 1) * 3 = j * 3 + 1 + 1 + 1 by omega]
    simp only [flat3, List.getElem?_cons_succ]
    refine ⟨h1, h2, ?_⟩
    rw [h3]
    congr 2
    omega
theorem flat3_set : ∀ (ps : List (Value × Value)) (i j : Nat) (p : Value × Value) (u : Value), ps[j]? = some p → (flat3 i ps).set (j * 3 + 1) u = flat3 i (ps.set j (p.1, u))
  | [], i, j, p, u, h => by cases h
  | q :: ps, i, 0, p, u, h => by
    simp only [List.getElem?_cons_zero, Option.some.injEq] at h
    subst h
    simp [flat3]
  | q :: ps, i, j + 1, p, u, h => by
    have h' : ps[j]? = some p := by simpa using h
    rw [show (j + 1) * 3 + 1 = j * 3 + 1 + 1 + 1 + 1 by omega]
    simp only [flat3, List.set_cons_succ]
    rw [flat3_set ps (i + 1) j p u h']

/-- The book's own cells: how many lists, and the rows of each kind, of which only that of bytes is not empty. -/
def bookCells (N : Nat) (row : Value) : Array Value := #[.int .i64 (N : Int), .slice none 0 0, row, .slice none 0 0, .slice none 0 0, .slice none 0 0, .slice none 0 0, .slice none 0 0, .slice none 0 0, .slice none 0 0, .slice none 0 0, .slice none 0 0, .slice none 0 0, .slice none 0 0, .slice none 0 0, .slice none 0 0,
  .slice none 0 0, .slice none 0 0, .slice none 0 0, .slice none 0 0, .slice none 0 0, .slice none 0 0, .slice none 0 0, .slice none 0 0, .slice none 0 0, .slice none 0 0, .slice none 0 0, .slice none 0 0, .slice none 0 0, .slice none 0 0, .slice none 0 0]
/-- The book at block b; list i has the blocks that F i tells. -/
structure Bk (W : World) (base b : Nat) (row : Value) (ps : List (Value × Value)) (F : Nat → Nat → Prop) : Prop where
  hb : W.heap[b]? = some (.cells (bookCells ps.length row) 70 (0, 0))
  hr : W.ownsRow base 113 3 row ps.length (flat3 0 ps)
  rb : row.ownBlock ≠ some b
  bb : base ≤ b
  fl : ∀ i k, F i k → base ≤ k ∧ k < W.heap.size ∧ k ≠ b ∧ row.ownBlock ≠ some k
  fd : ∀ i j k, F i k → F j k → i = j
/-- A list that is a row of the law's own. -/
def L1 (W : World) (base : Nat) (F : Nat → Prop) (v : Value) (n : Nat) : Prop := ∃ xs : List Int, FRow W base v n xs ∧ ∀ k, v.ownBlock = some k → F k
/-- It is full of marks. -/
def L2 (W : World) (base : Nat) (F : Nat → Prop) (v : Value) (n : Nat) (i : Nat) : Prop := FRow W base v n (List.replicate n (mark i)) ∧ ∀ k, v.ownBlock = some k → F k
/-- More is put behind it. -/
def L3 (W : World) (base : Nat) (F : Nat → Prop) (v long : Value) (n : Nat) (i : Nat) : Prop :=
  FRow W base long (n + 40) (List.replicate (n + 40) (mark i)) ∧ (∀ k, long.ownBlock = some k → F k) ∧ ∃ A c, v = .slice A n c ∧ n ≤ c ∧ Reads W .u8 A n (List.replicate n (mark i)) ∧ (0 < n → ∃ g, A = some ⟨g, 0, none⟩ ∧ F g)
section
variable {W W' : World} {base b n i : Nat} {F G : Nat → Prop} {v long : Value}
theorem own_foot {e : TypeId} {size m : Nat} {u : Value} {xs : List Value} (h : W.ownsRow base e size u m xs) (hf : Foot G W W') (hne : ∀ k, u.ownBlock = some k → ¬ G k) : W'.ownsRow base e size u m xs := by
  refine ⟨h.1, h.2.elim .inl ?_⟩
  rintro ⟨g, cap, cur, h1, h2, h3, r⟩
  exact .inr ⟨g, cap, cur, h1, h2, hf.blk h3 (hne g (by rw [h1]; rfl)), r⟩
theorem L1.foot (h : L1 W base F v n) (hf : Foot G W W') (hne : ∀ k, F k → ¬ G k) : L1 W' base F v n := by
  obtain ⟨xs, h1, h2⟩ := h
  exact ⟨xs, h1.foot hf (fun k hk => hne k (h2 k hk)), h2⟩
theorem L2.foot (h : L2 W base F v n i) (hf : Foot G W W') (hne : ∀ k, F k → ¬ G k) : L2 W' base F v n i := ⟨h.1.foot hf (fun k hk => hne k (h.2 k hk)), h.2⟩
theorem Bk.foot {row : Value} {ps : List (Value × Value)} {F : Nat → Nat → Prop} (h : Bk W base b row ps F) (hf : Foot G W W') (hb : ¬ G b) (hr : ∀ k, row.ownBlock = some k → ¬ G k) : Bk W' base b row ps F :=
  ⟨hf.blk h.hb hb, own_foot h.hr hf hr, h.rb, h.bb, fun i k hk => ⟨(h.fl i k hk).1, Nat.lt_of_lt_of_le (h.fl i k hk).2.1 hf.size, (h.fl i k hk).2.2⟩, h.fd⟩
end
end Go.Proofs.YtdgilloblfbklabGreatDoor.Own
