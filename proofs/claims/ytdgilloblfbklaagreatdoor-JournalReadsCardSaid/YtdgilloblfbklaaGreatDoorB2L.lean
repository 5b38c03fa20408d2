/-
  A book of lists of bytes, as it lies in memory: a block of its own, a row of what is held, and each list's own blocks.
-/
import Derived.Test.YtdgilloblfbklaaGreatDoorLib
import Derived.Test.YtdgilloblfbklaaGreatDoorAppendCells
set_option linter.unusedVariables false
set_option linter.unusedSimpArgs false
namespace Go.Proofs.YtdgilloblfbklaaGreatDoor
open Go.RowKit

/-- The mark of the list of number n. -/
def mark (n : Nat) : Int := 1 + ((n % 250 : Nat) : Int)
theorem mark_bd (n : Nat) : 1 ≤ mark n ∧ mark n ≤ 250 := by unfold mark; omega
/-- What a book's row of a kind holds: each list, what it grew to, its number. -/
def flat3 (no : Nat → Nat) : Nat → List (Value × Value) → List Value
  | _, [] => []
  | i, p :: ps => p.1 :: p.2 :: .int .i64 ((no i : Nat) : Int) :: flat3 no (i + 1) ps
theorem flat3_length (no : Nat → Nat) : ∀ (ps : List (Value × Value)) (i : Nat), (flat3 no i ps).length = ps.length * 3
  | [], _ => rfl
  | p :: ps, i => by simp only [flat3, List.length_cons, flat3_length no ps (i + 1)]; omega
theorem flat3_append (no : Nat → Nat) : ∀ (a b : List (Value × Value)) (i : Nat), flat3 no i (a ++ b) = flat3 no i a ++ flat3 no (i + a.length) b
  | [], b, i => by simp [flat3]
  | p :: a, b, i => by
    simp only [List.cons_append, flat3, flat3_append no a b (i + 1), List.length_cons]
    rw [show i + 1 + a.length = i + (a.length + 1) by omega]
theorem flat3_get (no : Nat → Nat) : ∀ (ps : List (Value × Value)) (i j : Nat) (p : Value × Value), ps[j]? = some p → (flat3 no i ps)[j * 3]? = some p.1 ∧ (flat3 no i ps)[j * 3 + 1]? = some p.2 ∧ (flat3 no i ps)[j * 3 + 2]? = some (.int .i64 ((no (i + j) : Nat) : Int))
  | [], i, j, p, h => by cases h
  | q :: ps, i, 0, p, h => by
    simp only [List.getElem?_cons_zero, Option.some.injEq] at h
    subst h
    simp [flat3]
  | q :: ps, i, j + 1, p, h => by
    have h' : ps[j]? = some p := by simpa using h
    obtain ⟨h1, h2, h3⟩ := flat3_get no ps (i + 1) j p h'
    rw [show (j + 1) * 3 = j * 3 + 1 + 1 + 1 by omega]
    simp only [flat3, List.getElem?_cons_succ]
    refine ⟨h1, h2, ?_⟩
    rw [h3, show i + 1 + j = i + (j + 1) by omega]
theorem flat3_set (no : Nat → Nat) : ∀ (ps : List (Value × Value)) (i j : Nat) (p : Value × Value) (u : Value), ps[j]? = some p → (flat3 no i ps).set (j * 3 + 1) u = flat3 no i (ps.set j (p.1, u))
  | [], i, j, p, u, h => by cases h
  | q :: ps, i, 0, p, u, h => by
    simp only [List.getElem?_cons_zero, Option.some.injEq] at h
    subst h
    simp [flat3]
  | q :: ps, i, j + 1, p, u, h => by
    have h' : ps[j]? = some p := by simpa using h
    rw [show (j + 1) * 3 + 1 = j * 3 + 1 + 1 + 1 + 1 by omega]
    simp only [flat3, List.set_cons_succ]
    rw [flat3_set no ps (i + 1) j p u h']
theorem flat3_congr (no no' : Nat → Nat) : ∀ (ps : List (Value × Value)) (i : Nat), (∀ j, i ≤ j → j < i + ps.length → no j = no' j) → flat3 no i ps = flat3 no' i ps
  | [], _, _ => rfl
  | p :: ps, i, h => by
    simp only [flat3]
    rw [h i (Nat.le_refl _) (by simp), flat3_congr no no' ps (i + 1) (fun j h1 h2 => h j (by omega) (by simp only [List.length_cons]; omega))]

/-- The book's own cells: how many lists, and the rows of each kind, of which only those of bytes and of blobs are not empty. -/
def bookCells (N : Nat) (row blob : Value) : Array Value := #[.int .i64 (N : Int), .slice none 0 0, row, .slice none 0 0, .slice none 0 0, blob, .slice none 0 0, .slice none 0 0, .slice none 0 0, .slice none 0 0, .slice none 0 0, .slice none 0 0, .slice none 0 0, .slice none 0 0, .slice none 0 0, .slice none 0 0,
  .slice none 0 0, .slice none 0 0, .slice none 0 0, .slice none 0 0, .slice none 0 0, .slice none 0 0, .slice none 0 0, .slice none 0 0, .slice none 0 0, .slice none 0 0, .slice none 0 0, .slice none 0 0, .slice none 0 0, .slice none 0 0, .slice none 0 0]
/-- A kind of a book at block b (its row lies in cell ix, what is held is of type ht); list i has the blocks that F i tells. -/
structure Bk (ix : Nat) (ht : TypeId) (W : World) (base b : Nat) (cs : Array Value) (row : Value) (ps : List (Value × Value)) (no : Nat → Nat) (F : Nat → Nat → Prop) : Prop where
  hb : W.heap[b]? = some (.cells cs 60 (0, 0))
  hx : cs[ix]? = some row
  hr : W.ownsRow base ht 3 row ps.length (flat3 no 0 ps)
  nb : ∀ j, no j ≤ 1000000000000
  rb : row.ownBlock ≠ some b
  bb : base ≤ b
  fl : ∀ i k, F i k → base ≤ k ∧ k < W.heap.size ∧ k ≠ b ∧ row.ownBlock ≠ some k
  fd : ∀ i j k, F i k → F j k → i = j
/-- A list that is a row of the law's own. -/
def L1 (W : World) (base : Nat) (F : Nat → Prop) (v : Value) (n : Nat) : Prop := ∃ xs : List Int, W.ownsRow base 5 1 v n (nums .u8 xs) ∧ ∀ k, v.ownBlock = some k → F k
/-- It is full of marks. -/
def L2 (W : World) (base : Nat) (F : Nat → Prop) (v : Value) (n : Nat) (i : Nat) : Prop := W.ownsRow base 5 1 v n (nums .u8 (List.replicate n (mark i))) ∧ ∀ k, v.ownBlock = some k → F k
/-- More is put behind it. -/
def L3 (W : World) (base : Nat) (F : Nat → Prop) (v long : Value) (n : Nat) (i : Nat) : Prop :=
  W.ownsRow base 5 1 long (n + 40) (nums .u8 (List.replicate (n + 40) (mark i))) ∧ (∀ k, long.ownBlock = some k → F k) ∧ ∃ A c, v = .slice A n c ∧ n ≤ c ∧ Reads W .u8 A n (List.replicate n (mark i)) ∧ (0 < n → ∃ g, A = some ⟨g, 0, none⟩ ∧ F g)
section
variable {W W' : World} {base b n i : Nat} {F G : Nat → Prop} {v long : Value}
theorem own_foot {e : TypeId} {size m : Nat} {u : Value} {xs : List Value} (h : W.ownsRow base e size u m xs) (hf : Foot G W W') (hne : ∀ k, u.ownBlock = some k → ¬ G k) : W'.ownsRow base e size u m xs := by
  refine ⟨h.1, h.2.elim .inl ?_⟩
  rintro ⟨g, cap, cur, h1, h2, h3, r⟩
  exact .inr ⟨g, cap, cur, h1, h2, hf.blk h3 (hne g (by rw [h1]; rfl)), r⟩
theorem L1.foot (h : L1 W base F v n) (hf : Foot G W W') (hne : ∀ k, F k → ¬ G k) : L1 W' base F v n := by
  obtain ⟨xs, h1, h2⟩ := h
  exact ⟨xs, own_foot h1 hf (fun k hk => hne k (h2 k hk)), h2⟩
theorem L2.foot (h : L2 W base F v n i) (hf : Foot G W W') (hne : ∀ k, F k → ¬ G k) : L2 W' base F v n i := ⟨own_foot h.1 hf (fun k hk => hne k (h.2 k hk)), h.2⟩
theorem Bk.foot {ix : Nat} {ht : TypeId} {cs : Array Value} {row : Value} {ps : List (Value × Value)} {no : Nat → Nat} {F : Nat → Nat → Prop} (h : Bk ix ht W base b cs row ps no F) (hf : Foot G W W') (hb : ¬ G b) (hr : ∀ k, row.ownBlock = some k → ¬ G k) : Bk ix ht W' base b cs row ps no F :=
  ⟨hf.blk h.hb hb, h.hx, own_foot h.hr hf hr, h.nb, h.rb, h.bb, fun i k hk => ⟨(h.fl i k hk).1, Nat.lt_of_lt_of_le (h.fl i k hk).2.1 hf.size, (h.fl i k hk).2.2⟩, h.fd⟩
end
/-- An append that makes a new block leaves all old ones as they were. -/
theorem append_far {P : Program} {W w1 : World} {base : Nat} {t ty e : TypeId} {k : IntKind} {bytes : Nat} (ht : P.underlying t = some (.slice e)) (hinfo : (P.info? e).map (fun i => (i.zero, i.size, i.bytes)) = some (some (.int k 0), 1, bytes))
    {v v1 : Value} {xs ys : List Int} {ad : Addr} {m c : Nat} (HO : W.ownsRow base e 1 v xs.length (nums k xs)) (HR : Reads W k (some ad) m ys) (hm : 0 < m) (hl : (xs.length + m) * bytes ≤ 140737488355328) (hb0 : 0 < bytes)
    (hr : (Builtin.append_ #[t, t] ty #[v, .slice (some ad) m c]).run P W = .ok v1 w1) (hat : v1.ownBlock = some W.heap.size) : W.grownBy w1 none := by
  obtain ⟨i0, hi, hzz⟩ := Option.map_eq_some_iff.1 hinfo
  simp only [Prod.mk.injEq] at hzz
  obtain ⟨hz0, hz1, hz2⟩ := hzz
  have hyl : ys.length = m := HR.1
  have hlen : xs.length + m ≤ 140737488355328 := Nat.le_trans (Nat.le_mul_of_pos_right _ hb0) hl
  have hcells : ∀ j u, (nums k ys)[j]? = some u → W.cell? (ad.add j) = some u := by
    intro j u hu
    have hj : j < ys.length := by
      rcases Nat.lt_or_ge j ys.length with h | h
      · exact h
      · simp [nums, List.getElem?_eq_none h] at hu
    obtain ⟨ad', h', hc⟩ := HR.2.2 hm
    injection h' with h'
    subst h'
    have := hc j (by omega)
    simp [nums, List.getElem?_eq_getElem hj] at hu
    subst hu
    rw [this]
    simp [List.getD_eq_getElem?_getD, List.getElem?_eq_getElem hj]
  have hnl : (nums k ys).length = m * i0.size := by rw [hz1]; simp [nums, hyl]
  rcases HO.2 with ⟨rfl, h0⟩ | ⟨g, cap, cur, rfl, hbg, hg, hnc, hcm, hcs, htake⟩
  · have hr2 := run_append_nil (P := P) W t ty e i0 (.int k 0) ht hi hz0 ad m c (nums k ys) hnl hcells hm (by omega) (by rw [hz2]; have : m * bytes ≤ (xs.length + m) * bytes := Nat.mul_le_mul_right _ (by omega); omega)
    rw [hr] at hr2
    injection hr2 with e1 e2
    subst e2
    exact ⟨rfl, rfl, rfl, by simp, fun k hk _ => Below.heap_alloc W.drew _ k hk⟩
  · by_cases hroom : xs.length + m ≤ cap
    · have hr2 := run_append_room (P := P) W t ty e i0 ht hi g xs.length cap cur hg ad m c (nums k ys) hnl hcells (by intro u hu; simp only [nums, List.mem_map] at hu; obtain ⟨q, _, rfl⟩ := hu; rfl) hroom (by rw [hz1, hcs]; simp [nums, hyl]; omega)
      rw [hr] at hr2
      injection hr2 with e1 e2
      subst e1
      have hgl := (Array.getElem?_eq_some_iff.1 hg).1
      have : g = W.heap.size := by simpa [Value.ownBlock] using hat
      omega
    · have hr2 := run_append_grow (P := P) W t ty e i0 (.int k 0) ht hi hz0 ⟨g, 0, none⟩ xs.length cap (nums k xs) (by rw [hz1]; simp [nums]) (HO.cells (g := g) rfl) ad m c (nums k ys) hnl hcells (by omega) (by omega) (by rw [hz2]; exact growslice_fits (by omega) hl)
      rw [hr] at hr2
      injection hr2 with e1 e2
      subst e2
      exact ⟨rfl, rfl, rfl, by simp, fun k hk _ => Below.heap_alloc W.drew _ k hk⟩
theorem wp_append_far {P : Program} {o : Oper} {a : Act} {K : Act → World → Prop} {Q : Exit → Act → World → Prop} {W : World} (base : Nat) (s x : Operand) (t e : TypeId) (k : IntKind) (bytes : Nat)
    (ho : o.op = .call { callee := .builtin .append, args := #[s, x], argTypes := #[t, t] })
    (ht : P.underlying t = some (.slice e)) (hinfo : (P.info? e).map (fun i => (i.zero, i.size, i.bytes)) = some (some (.int k 0), 1, bytes)) (hb0 : 0 < bytes)
    (v : Value) (xs ys : List Int) (ad : Addr) (m c : Nat) (hs : a.eval s = v) (hx : a.eval x = .slice (some ad) m c) (hm : 0 < m)
    (HO : W.ownsRow base e 1 v xs.length (nums k xs)) (HR : Reads W k (some ad) m ys) (hbase : base ≤ W.heap.size) (hl : (xs.length + m) * bytes ≤ 140737488355328)
    (h : ∀ v1 w1, w1.ownsRow base e 1 v1 (xs ++ ys).length (nums k (xs ++ ys)) → W.grownBy w1 v.ownBlock → (v1.ownBlock = v.ownBlock ∨ (v1.ownBlock = some W.heap.size ∧ W.grownBy w1 none)) → K (a.put o.dst v1) w1) :
    o.wp P a W K Q := by
  obtain ⟨v1, w1, hr, hown, hg, hat⟩ := run_append_row (P := P) (W := W) base t o.type e k bytes ht hinfo hb0 v xs ys (some ad) m c HO HR hbase hl
  have hat2 : v1.ownBlock = v.ownBlock ∨ (v1.ownBlock = some W.heap.size ∧ W.grownBy w1 none) := hat.imp id (fun h => ⟨h, append_far ht hinfo HO HR hm hl hb0 hr h⟩)
  unfold Oper.wp execOp
  simp only [ho, resolve, invoke, builtin, Sem.run_bind, Sem.run_pure, Result.andThen_ok, List.map_toArray, List.map_cons, List.map_nil, hs, hx, hr]
  exact h v1 w1 hown hg hat2
/-- The law at a plain region's list. -/
theorem append_row_far {P : Program} {ops : Array Oper} {rest : List Oper} {o : Oper} {a : Act} {Q : Exit → Act → World → Prop} {W : World} (base : Nat) (hgd : o.guard = none) (s x : Operand) (t e : TypeId) (k : IntKind) (bytes : Nat)
    (ho : o.op = .call { callee := .builtin .append, args := #[s, x], argTypes := #[t, t] })
    (ht : P.underlying t = some (.slice e)) (hinfo : (P.info? e).map (fun i => (i.zero, i.size, i.bytes)) = some (some (.int k 0), 1, bytes)) (hb0 : 0 < bytes)
    (v : Value) (xs ys : List Int) (ad : Addr) (m c : Nat) (hs : a.eval s = v) (hx : a.eval x = .slice (some ad) m c) (hm : 0 < m)
    (HO : W.ownsRow base e 1 v xs.length (nums k xs)) (HR : Reads W k (some ad) m ys) (hbase : base ≤ W.heap.size) (hl : (xs.length + m) * bytes ≤ 140737488355328)
    (h : ∀ v1 w1, w1.ownsRow base e 1 v1 (xs ++ ys).length (nums k (xs ++ ys)) → W.grownBy w1 v.ownBlock → (v1.ownBlock = v.ownBlock ∨ (v1.ownBlock = some W.heap.size ∧ W.grownBy w1 none)) → wpList P ops Q rest (a.put o.dst v1) w1) :
    wpList P ops Q (o :: rest) a W := by
  refine wpList_plain hgd fun K hK => ?_
  exact wp_append_far base s x t e k bytes ho ht hinfo hb0 v xs ys ad m c hs hx hm HO HR hbase hl fun v1 w1 h1 h2 h3 => hK _ _ (h v1 w1 h1 h2 h3)
end Go.Proofs.YtdgilloblfbklaaGreatDoor
