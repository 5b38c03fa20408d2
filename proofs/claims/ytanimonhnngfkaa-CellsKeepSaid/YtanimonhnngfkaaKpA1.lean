/-
  cells.Count, of an array that may be.
-/
import Derived.Test.YtanimonhnngfkaaKpA
set_option linter.unusedVariables false
set_option linter.unusedSimpArgs false
namespace Go.Proofs.Ytanimonhnngfkaa.Own
open Go.RowKit

theorem aside {p : Prop} (h : p) : Aside p := h
def zeroVals : Array Value := #[.string ⟨#[]⟩, .int .u8 0, .int .i64 0, .int .i64 0, .int .i64 0, .slice none 0 0, .slice none 0 0]
theorem set7 {w : World} {g : Nat} {a0 a1 a2 a3 a4 a5 a6 : Value} {t : TypeId} {fr : Nat × Nat} (h : w.heap[g]? = some (.cells #[a0, a1, a2, a3, a4, a5, a6] t fr)) (x0 x1 x2 x3 x4 x5 x6 : Value) :
    (((((((w.setCell ⟨g, 0, none⟩ x0).setCell ⟨g, 1, none⟩ x1).setCell ⟨g, 2, none⟩ x2).setCell ⟨g, 3, none⟩ x3).setCell ⟨g, 4, none⟩ x4).setCell ⟨g, 5, none⟩ x5).setCell ⟨g, 6, none⟩ x6).heap[g]? = some (.cells #[x0, x1, x2, x3, x4, x5, x6] t fr) := by
  rw [setCell_heap (setCell_heap (setCell_heap (setCell_heap (setCell_heap (setCell_heap (setCell_heap h 0 x0) 1 x1) 2 x2) 3 x3) 4 x4) 5 x5) 6 x6]
  rfl
/-- The world at Count's call of cell. -/
theorem count_four (w : World) (vals : Array Value) (x : Num) (W : World) (hW : W = (((w.alloc (.cells vals 38)).alloc (.cells #[.int .i64 x.W, .int .u64 x.Hi, .int .u64 x.Lo] 45)).alloc (.cells zeroVals 38)).alloc (.cells vals 63)) :
    W.heap[w.heap.size + 1 + 1 + 1]? = some (.cells vals 63 (0, 0)) ∧ W.heap[w.heap.size + 1 + 1]? = some (.cells zeroVals 38 (0, 0)) ∧ Below w.heap.size w W ∧ W.heap.size = w.heap.size + 4 := by
  subst hW
  have s1 := sizeLit w (.cells vals 38)
  have s2 := sizeLit (w.alloc (.cells vals 38)) (.cells #[.int .i64 x.W, .int .u64 x.Hi, .int .u64 x.Lo] 45)
  have s3 := sizeLit ((w.alloc (.cells vals 38)).alloc (.cells #[.int .i64 x.W, .int .u64 x.Hi, .int .u64 x.Lo] 45)) (.cells zeroVals 38)
  have s4 := sizeLit (((w.alloc (.cells vals 38)).alloc (.cells #[.int .i64 x.W, .int .u64 x.Hi, .int .u64 x.Lo] 45)).alloc (.cells zeroVals 38)) (.cells vals 63)
  exact ⟨heapLit _ _ _ _ (by omega), heapOld _ _ _ _ (heapLit _ _ _ _ (by omega)), ((((Below.refl _ _).alloc (Nat.le_refl _) _).alloc (by omega) _).alloc (by omega) _).alloc (by omega) _, by omega⟩

set_option maxRecDepth 100000 in
set_option maxHeartbeats 800000 in
theorem Count_out (a : Arr) (ho : a.ok) (hkd : a.kd = 4) (A : Option Addr) (n c : Nat) (B : Option Addr) (m d k : Nat) (hBd : B = none → d = 0) (x : Num) (hxw : x.wf) (hxo : x.ok) (hx0 : x.Hi = 0) (hxk : x.Lo = (k : Int)) (hk : n ≤ k) (hkb : k ≤ 18446744073709551615) (w : World) (hR : ReadsNums w A n a.cs) (hS : Reads w .i64 B m a.ls) :
    Calls Try.prog 10 #[.agg (a.vals A n c B m d), x.v] w fun e w' => e = .returned (.tuple #[.agg zeroVals, .int .i64 11]) ∧ Below w.heap.size w w' := by
  obtain ⟨h1, h2, h3, h4⟩ := count_four w (a.vals A n c B m d) x _ rfl
  have hbl : ∀ ad, A = some ad → 0 < n → ad.block < w.heap.size := fun ad e h0 => by
    obtain ⟨b, off, e1, e2, _⟩ := hR.2.2 h0
    rw [e1] at e; cases e; exact e2
  have hbl2 := hS.block_lt
  have HC := aside (cell_out a ho A n c B m d (w.heap.size + 1 + 1 + 1) k hBd x hxw hxo hx0 hxk hk hkb _ (hR.below h3) (hS.below h3) h1 (fun ad e h0 => by have := hbl ad e h0; omega) (fun ad e h0 => by have := hbl2 ad e h0; omega))
  have H2 := aside h2
  have H3 := aside h3
  have H4 := aside h4
  obtain ⟨xW, xh, xl⟩ := x
  obtain ⟨nm, kd, aW, aR, aB, cs, ls⟩ := a
  simp only [Num.v, Arr.vals, zeroVals] at *
  subst hx0 hxk hkd
  clear hR hS ho hxw hxo hbl hbl2 h1 h2 h3 h4
  go_enter Try.func10, Try.ntmps10
  go_wp2_with fail
  refine Calls.mono HC.out ?_
  rintro e w1 ⟨rfl, hb1⟩
  have hz := (hb1.block _ (Array.getElem?_eq_some_iff.1 H2.out).1).trans H2.out
  have z0 := cellOf hz 0
  have z1 := cellOf hz 1
  have z2 := cellOf hz 2
  have z3 := cellOf hz 3
  have z4 := cellOf hz 4
  have z5 := cellOf hz 5
  have z6 := cellOf hz 6
  have fz := frozenOf hz
  have hle : w.heap.size ≤ w.heap.size + 1 + 1 := by omega
  go_wp2_with fail
  refine bodyPost_ret (results_row_tmp rfl _ _ (w.heap.size + 1 + 1) 38 _ (0, 0) _ rfl (set7 hz _ _ _ _ _ _ _) Try.underlying38 rfl (by kernel_rfl)) rfl ⟨rfl, ?_⟩
  have hb := H3.out.trans (hb1.mono H3.out.size)
  exact ((((((hb.setCell (p := ⟨_, 0, none⟩) hle _).setCell (p := ⟨_, 1, none⟩) hle _).setCell (p := ⟨_, 2, none⟩) hle _).setCell (p := ⟨_, 3, none⟩) hle _).setCell (p := ⟨_, 4, none⟩) hle _).setCell (p := ⟨_, 5, none⟩) hle _).setCell (p := ⟨_, 6, none⟩) hle _
theorem numsV_set2 (l : List Num) : ∀ k, k < l.length → ∀ lo, (numsV l).set (k * 3 + 2) (.int .u64 lo) = numsV (l.set k ⟨(l.getD k zeroNum).W, (l.getD k zeroNum).Hi, lo⟩) := by
  induction l with
  | nil => intro k hk; simp at hk
  | cons x l ih =>
    intro k hk lo
    have e : ∀ (x : Num) (l : List Num), numsV (x :: l) = .int .i64 x.W :: .int .u64 x.Hi :: .int .u64 x.Lo :: numsV l := fun x l => by unfold numsV; rw [List.flatMap_cons]; rfl
    cases k with
    | zero => rw [e, List.set_cons_zero, e]; rfl
    | succ k =>
      rw [List.set_cons_succ, e, e, show (k + 1) * 3 + 2 = k * 3 + 2 + 1 + 1 + 1 by omega, List.set_cons_succ, List.set_cons_succ, List.set_cons_succ, ih k (by simpa using hk) lo, List.getD_cons_succ]
theorem cell_four (a : Arr) (ho : a.ok) (A : Option Addr) (n c : Nat) (B : Option Addr) (m d k : Nat) (hBd : B = none → d = 0) (x : Num) (hxw : x.wf) (hxo : x.ok) (hx0 : x.Hi = 0) (hxk : x.Lo = (k : Int)) (hk : k < n) (w : World) (hR : ReadsNums w A n a.cs) (hS : Reads w .i64 B m a.ls)
    (W : World) (hW : W = (((w.alloc (.cells (a.vals A n c B m d) 38)).alloc (.cells #[.int .i64 x.W, .int .u64 x.Hi, .int .u64 x.Lo] 45)).alloc (.cells zeroVals 38)).alloc (.cells (a.vals A n c B m d) 63)) :
    Calls Try.prog 21 #[.pointer (some ⟨w.heap.size + 1 + 1 + 1, 0, none⟩), .int .u8 a.kd, x.v] W fun e w1 => ∃ g B', e = .returned (.tuple #[.pointer (some ⟨g, k * 3, none⟩), .int .i64 (k : Int), .int .i64 0]) ∧
      w.heap.size + 4 ≤ g ∧ w1.heap[g]? = some (.cells (numsV a.cs).toArray 45 (0, 0)) ∧ w1.heap[w.heap.size + 1 + 1 + 1]? = some (.cells (a.vals (some ⟨g, 0, none⟩) n n B' m m) 63 (0, 0)) ∧ w1.heap[w.heap.size + 1 + 1]? = some (.cells zeroVals 38 (0, 0)) ∧ Reads w1 .i64 B' m a.ls ∧ (B' = none ∨ ∃ b, B' = some ⟨b, 0, none⟩ ∧ g < b) ∧ Below w.heap.size w w1 := by
  obtain ⟨h1, h2, h3, h4⟩ := count_four w (a.vals A n c B m d) x W hW
  have hbl : ∀ ad, A = some ad → 0 < n → ad.block < w.heap.size := fun ad e h0 => by
    obtain ⟨b, off, e1, e2, _⟩ := hR.2.2 h0
    rw [e1] at e; cases e; exact e2
  have hbl2 := hS.block_lt
  refine Calls.mono (cell_in a ho A n c B m d (w.heap.size + 1 + 1 + 1) k hBd x hxw hxo hx0 hxk hk W (hR.below h3) (hS.below h3) h1 (fun ad e h0 => by have := hbl ad e h0; omega) (fun ad e h0 => by have := hbl2 ad e h0; omega)) ?_
  rintro e w1 ⟨g, B', rfl, hg0, hg1, hp1, hR1, hB1, hF1⟩
  exact ⟨g, B', rfl, by omega, hg1, hp1, hF1.blk h2 (by omega), hR1, hB1, h3.trans (hF1.below (fun i hi => by omega) (by omega))⟩

set_option maxRecDepth 100000 in
set_option maxHeartbeats 800000 in
theorem Count_in (a : Arr) (ho : a.ok) (hkd : a.kd = 4) (A : Option Addr) (n c : Nat) (B : Option Addr) (m d k : Nat) (hBd : B = none → d = 0) (x'W x'H x'L : Int) (hxx : a.cs.getD k zeroNum = ⟨x'W, x'H, x'L⟩) (x : Num) (hxw : x.wf) (hxo : x.ok) (hx0 : x.Hi = 0) (hxk : x.Lo = (k : Int)) (hk : k < n) (w : World) (hR : ReadsNums w A n a.cs) (hS : Reads w .i64 B m a.ls) :
    Calls Try.prog 10 #[.agg (a.vals A n c B m d), x.v] w fun e w' => ∃ g B', e = .returned (.tuple #[.agg ({ a with cs := a.cs.set k ⟨x'W, x'H, IntKind.u64.wrap (x'L + 1)⟩ }.vals (some ⟨g, 0, none⟩) n n B' m m), .int .i64 0]) ∧ w.heap.size ≤ g ∧ w'.heap[g]? = some (.cells (numsV (a.cs.set k ⟨x'W, x'H, IntKind.u64.wrap (x'L + 1)⟩)).toArray 45 (0, 0)) ∧ Reads w' .i64 B' m a.ls ∧ (B' = none ∨ ∃ b, B' = some ⟨b, 0, none⟩ ∧ g < b) ∧ Below w.heap.size w w' := by
  have HC := aside (cell_four a ho A n c B m d k hBd x hxw hxo hx0 hxk hk w hR hS _ rfl)
  have hkl : k < a.cs.length := by rw [hR.1]; exact hk
  have HSET := aside (numsV_set2 a.cs k hkl (IntKind.u64.wrap (x'L + 1)))
  have HGET := aside (numsV_get a.cs k hkl)
  rw [hxx] at HSET HGET
  obtain ⟨xW, xh, xl⟩ := x
  obtain ⟨nm, kd, aW, aR, aB, cs, ls⟩ := a
  simp only [Num.v, Arr.vals, zeroVals] at *
  subst hx0 hxk hkd
  clear hR hS ho hxw hxo hxx hkl
  go_enter Try.func10, Try.ntmps10
  go_wp2_with fail
  refine Calls.mono HC.out ?_
  rintro e w1 ⟨g, B', rfl, hg0, hg1, hp1, hz, hR1, hB1, hb1⟩
  have q0 := cellOf hp1 0
  have q1 := cellOf hp1 1
  have q2 := cellOf hp1 2
  have q3 := cellOf hp1 3
  have q4 := cellOf hp1 4
  have q5 := cellOf hp1 5
  have q6 := cellOf hp1 6
  have z0 := cellOf hz 0
  have z1 := cellOf hz 1
  have z2 := cellOf hz 2
  have z3 := cellOf hz 3
  have z4 := cellOf hz 4
  have z5 := cellOf hz 5
  have z6 := cellOf hz 6
  have fz := frozenOf hz
  have fg := frozenOf hg1
  have g2 : w1.cell? ⟨g, k * 3 + 2, none⟩ = some (.int .u64 x'L) := (cellOf hg1 _).trans (by rw [List.getElem?_toArray]; exact HGET.out.2.2)
  have hn1 : ¬ g = w.heap.size + 1 + 1 + 1 := by omega
  have hn2 : ¬ g = w.heap.size + 1 + 1 := by omega
  have hn3 : ¬ w.heap.size + 1 + 1 + 1 = g := by omega
  have hn4 : ¬ w.heap.size + 1 + 1 = g := by omega
  simp only [List.getElem?_toArray, List.getElem?_cons_zero, List.getElem?_cons_succ] at q0 q1 q2 q3 q4 q5 q6 z0 z1 z2 z3 z4 z5 z6
  have HG1 := aside hg1
  have HP1 := aside hp1
  have HZ := aside hz
  clear hg1 hp1 hz
  go_wp2_with fail
  have hX := setOther HZ.out (p := ⟨g, k * 3 + 2, none⟩) (v := .int .u64 (IntKind.u64.wrap (x'L + 1))) hn2
  have hG := setCell_heap HG1.out (k * 3 + 2) (.int .u64 (IntKind.u64.wrap (x'L + 1)))
  rw [List.setIfInBounds_toArray, HSET.out] at hG
  have hle : w.heap.size ≤ w.heap.size + 1 + 1 := by omega
  have hle2 : w.heap.size ≤ g := by omega
  refine bodyPost_ret (results_row_tmp rfl _ _ (w.heap.size + 1 + 1) 38 _ (0, 0) _ rfl (set7 hX _ _ _ _ _ _ _) Try.underlying38 rfl (by kernel_rfl)) rfl ⟨g, B', rfl, hle2, ?_, ?_, hB1, ?_⟩
  · exact setOther (setOther (setOther (setOther (setOther (setOther (setOther hG hn4) hn4) hn4) hn4) hn4) hn4) hn4
  · refine hR1.foot (F := fun i => i = g ∨ i = w.heap.size + 1 + 1) (((((((((Foot.refl (fun i => i = g ∨ i = w.heap.size + 1 + 1) w1).setCell (p := ⟨g, k * 3 + 2, none⟩) (.inl (.inl rfl)) (.int .u64 (IntKind.u64.wrap (x'L + 1)))).setCell (p := ⟨w.heap.size + 1 + 1, 0, none⟩) (.inl (.inr rfl)) _).setCell (p := ⟨w.heap.size + 1 + 1, 1, none⟩) (.inl (.inr rfl)) _).setCell (p := ⟨w.heap.size + 1 + 1, 2, none⟩) (.inl (.inr rfl)) _).setCell (p := ⟨w.heap.size + 1 + 1, 3, none⟩) (.inl (.inr rfl)) _).setCell (p := ⟨w.heap.size + 1 + 1, 4, none⟩) (.inl (.inr rfl)) _).setCell (p := ⟨w.heap.size + 1 + 1, 5, none⟩) (.inl (.inr rfl)) _).setCell (p := ⟨w.heap.size + 1 + 1, 6, none⟩) (.inl (.inr rfl)) _) fun ad e h0 => ?_
    rcases hB1 with h | ⟨b, h, h5⟩
    · rw [h] at e; cases e
    · rw [h] at e; cases e; show ¬ (b = g ∨ b = w.heap.size + 1 + 1); omega
  · exact (((((((hb1.setCell (p := ⟨g, k * 3 + 2, none⟩) hle2 _).setCell (p := ⟨_, 0, none⟩) hle _).setCell (p := ⟨_, 1, none⟩) hle _).setCell (p := ⟨_, 2, none⟩) hle _).setCell (p := ⟨_, 3, none⟩) hle _).setCell (p := ⟨_, 4, none⟩) hle _).setCell (p := ⟨_, 5, none⟩) hle _).setCell (p := ⟨_, 6, none⟩) hle _
end Go.Proofs.Ytanimonhnngfkaa.Own

/- cells.Count where it refuses; cells.Read; cells.Write. -/
set_option linter.unusedVariables false
set_option linter.unusedSimpArgs false
namespace Go.Proofs.Ytanimonhnngfkaa.Own
open Go.RowKit

/-- The world at the call of cell: three boxes, and the array. -/
theorem box_four (w : World) (c1 c2 c3 c4 : Array Value) (t1 t2 t3 t4 : TypeId) (W : World) (hW : W = (((w.alloc (.cells c1 t1)).alloc (.cells c2 t2)).alloc (.cells c3 t3)).alloc (.cells c4 t4)) :
    W.heap[w.heap.size + 1 + 1 + 1]? = some (.cells c4 t4 (0, 0)) ∧ W.heap[w.heap.size + 1 + 1]? = some (.cells c3 t3 (0, 0)) ∧ W.heap[w.heap.size + 1]? = some (.cells c2 t2 (0, 0)) ∧ W.heap[w.heap.size]? = some (.cells c1 t1 (0, 0)) ∧ Below w.heap.size w W ∧ W.heap.size = w.heap.size + 4 := by
  subst hW
  have s1 := sizeLit w (.cells c1 t1)
  have s2 := sizeLit (w.alloc (.cells c1 t1)) (.cells c2 t2)
  have s3 := sizeLit ((w.alloc (.cells c1 t1)).alloc (.cells c2 t2)) (.cells c3 t3)
  have s4 := sizeLit (((w.alloc (.cells c1 t1)).alloc (.cells c2 t2)).alloc (.cells c3 t3)) (.cells c4 t4)
  exact ⟨heapLit _ _ _ _ (by omega), heapOld _ _ _ _ (heapLit _ _ _ _ (by omega)), heapOld _ _ _ _ (heapOld _ _ _ _ (heapLit _ _ _ _ (by omega))), heapOld _ _ _ _ (heapOld _ _ _ _ (heapOld _ _ _ _ (heapLit _ _ _ _ (by omega)))), ((((Below.refl _ _).alloc (Nat.le_refl _) _).alloc (by omega) _).alloc (by omega) _).alloc (by omega) _, by omega⟩
theorem box_five (w : World) (c1 c2 c3 c4 c5 : Array Value) (t1 t2 t3 t4 t5 : TypeId) (W : World) (hW : W = ((((w.alloc (.cells c1 t1)).alloc (.cells c2 t2)).alloc (.cells c3 t3)).alloc (.cells c4 t4)).alloc (.cells c5 t5)) :
    W.heap[w.heap.size + 1 + 1 + 1 + 1]? = some (.cells c5 t5 (0, 0)) ∧ W.heap[w.heap.size + 1 + 1 + 1]? = some (.cells c4 t4 (0, 0)) ∧ W.heap[w.heap.size + 1 + 1]? = some (.cells c3 t3 (0, 0)) ∧ W.heap[w.heap.size]? = some (.cells c1 t1 (0, 0)) ∧ Below w.heap.size w W ∧ W.heap.size = w.heap.size + 5 := by
  subst hW
  obtain ⟨h1, h2, h3, h4, h5, h6⟩ := box_four w c1 c2 c3 c4 t1 t2 t3 t4 _ rfl
  have s5 := sizeLit ((((w.alloc (.cells c1 t1)).alloc (.cells c2 t2)).alloc (.cells c3 t3)).alloc (.cells c4 t4)) (.cells c5 t5)
  exact ⟨heapLit _ _ _ _ (by omega), heapOld _ _ _ _ h1, heapOld _ _ _ _ h2, heapOld _ _ _ _ h4, h5.alloc (by omega) _, by omega⟩
theorem nums_lt {w : World} {A : Option Addr} {n : Nat} {cs : List Num} (hR : ReadsNums w A n cs) : ∀ ad, A = some ad → 0 < n → ad.block < w.heap.size := fun ad e h0 => by
  obtain ⟨b, off, e1, e2, _⟩ := hR.2.2 h0
  rw [e1] at e; cases e; exact e2
/-- cell at a box that is new. -/
theorem cell_err' (a : Arr) (hw : a.wf) (A : Option Addr) (n c : Nat) (B : Option Addr) (m d p : Nat) (hBd : B = none → d = 0) (kk : Int) (x : Num) (hxw : x.wf) (w W : World) (hb : Below w.heap.size w W) (hR : ReadsNums w A n a.cs) (hS : Reads w .i64 B m a.ls) (hp : W.heap[p]? = some (.cells (a.vals A n c B m d) 63 (0, 0))) (hpl : w.heap.size ≤ p) (er : Int) (he : a.cellE kk x = er) (he0 : ¬ er = 0) :
    Calls Try.prog 21 #[.pointer (some ⟨p, 0, none⟩), .int .u8 kk, x.v] W fun e w' => e = .returned (.tuple #[.pointer none, .int .i64 0, .int .i64 er]) ∧ Below W.heap.size W w' :=
  cell_err a hw A n c B m d p hBd kk x hxw W (hR.below hb) (hS.below hb) hp (fun ad e h0 => by have := nums_lt hR ad e h0; omega) (fun ad e h0 => by have := hS.block_lt ad e h0; omega) er he he0
theorem cell_in' (a : Arr) (ho : a.ok) (A : Option Addr) (n c : Nat) (B : Option Addr) (m d p k : Nat) (hBd : B = none → d = 0) (x : Num) (hxw : x.wf) (hxo : x.ok) (hx0 : x.Hi = 0) (hxk : x.Lo = (k : Int)) (hk : k < n) (w W : World) (hb : Below w.heap.size w W) (hR : ReadsNums w A n a.cs) (hS : Reads w .i64 B m a.ls) (hp : W.heap[p]? = some (.cells (a.vals A n c B m d) 63 (0, 0))) (hpl : w.heap.size ≤ p) :
    Calls Try.prog 21 #[.pointer (some ⟨p, 0, none⟩), .int .u8 a.kd, x.v] W fun e w' => ∃ g B', e = .returned (.tuple #[.pointer (some ⟨g, k * 3, none⟩), .int .i64 (k : Int), .int .i64 0]) ∧
      W.heap.size ≤ g ∧ w'.heap[g]? = some (.cells (numsV a.cs).toArray 45 (0, 0)) ∧ w'.heap[p]? = some (.cells (a.vals (some ⟨g, 0, none⟩) n n B' m m) 63 (0, 0)) ∧ Reads w' .i64 B' m a.ls ∧ (B' = none ∨ ∃ b, B' = some ⟨b, 0, none⟩ ∧ g < b) ∧ Foot (fun i => i = p) W w' :=
  cell_in a ho A n c B m d p k hBd x hxw hxo hx0 hxk hk W (hR.below hb) (hS.below hb) hp (fun ad e h0 => by have := nums_lt hR ad e h0; omega) (fun ad e h0 => by have := hS.block_lt ad e h0; omega)

set_option maxRecDepth 100000 in
set_option maxHeartbeats 800000 in
theorem Count_err (a : Arr) (hw : a.wf) (A : Option Addr) (n c : Nat) (B : Option Addr) (m d : Nat) (hBd : B = none → d = 0) (x : Num) (hxw : x.wf) (er : Int) (he : a.cellE 4 x = er) (he0 : ¬ er = 0) (w : World) (hR : ReadsNums w A n a.cs) (hS : Reads w .i64 B m a.ls) :
    Calls Try.prog 10 #[.agg (a.vals A n c B m d), x.v] w fun e w' => e = .returned (.tuple #[.agg zeroVals, .int .i64 er]) ∧ Below w.heap.size w w' := by
  obtain ⟨h1, h2, _, _, h3, h4⟩ := box_four w (a.vals A n c B m d) #[.int .i64 x.W, .int .u64 x.Hi, .int .u64 x.Lo] zeroVals (a.vals A n c B m d) 38 45 38 63 _ rfl
  have HC := aside (cell_err' a hw A n c B m d (w.heap.size + 1 + 1 + 1) hBd 4 x hxw w _ h3 hR hS h1 (by omega) er he he0)
  have H2 := aside h2
  have H3 := aside h3
  have H4 := aside h4
  have heb : (er != 0) = true := by simp [he0]
  obtain ⟨xW, xh, xl⟩ := x
  obtain ⟨nm, kd, aW, aR, aB, cs, ls⟩ := a
  simp only [Num.v, Arr.vals, zeroVals] at *
  clear hR hS hw hxw h1 h2 h3 h4 he
  go_enter Try.func10, Try.ntmps10
  go_wp2_with fail
  refine Calls.mono HC.out ?_
  rintro e w1 ⟨rfl, hb1⟩
  have hz := (hb1.block _ (Array.getElem?_eq_some_iff.1 H2.out).1).trans H2.out
  have z0 := cellOf hz 0
  have z1 := cellOf hz 1
  have z2 := cellOf hz 2
  have z3 := cellOf hz 3
  have z4 := cellOf hz 4
  have z5 := cellOf hz 5
  have z6 := cellOf hz 6
  have fz := frozenOf hz
  have hle : w.heap.size ≤ w.heap.size + 1 + 1 := by omega
  go_wp2_with fail
  refine bodyPost_ret (results_row_tmp rfl _ _ (w.heap.size + 1 + 1) 38 _ (0, 0) _ rfl (set7 hz _ _ _ _ _ _ _) Try.underlying38 rfl (by kernel_rfl)) rfl ⟨rfl, ?_⟩
  have hb := H3.out.trans (hb1.mono H3.out.size)
  exact ((((((hb.setCell (p := ⟨_, 0, none⟩) hle _).setCell (p := ⟨_, 1, none⟩) hle _).setCell (p := ⟨_, 2, none⟩) hle _).setCell (p := ⟨_, 3, none⟩) hle _).setCell (p := ⟨_, 4, none⟩) hle _).setCell (p := ⟨_, 5, none⟩) hle _).setCell (p := ⟨_, 6, none⟩) hle _

set_option maxRecDepth 100000 in
set_option maxHeartbeats 800000 in
theorem Read_err (a : Arr) (hw : a.wf) (A : Option Addr) (n c : Nat) (B : Option Addr) (m d : Nat) (hBd : B = none → d = 0) (x : Num) (hxw : x.wf) (er : Int) (he : a.cellE 3 x = er) (he0 : ¬ er = 0) (w : World) (hR : ReadsNums w A n a.cs) (hS : Reads w .i64 B m a.ls) :
    Calls Try.prog 15 #[.agg (a.vals A n c B m d), x.v] w fun e w' => e = .returned (.tuple #[.agg #[.int .i64 0, .int .u64 0, .int .u64 0], .int .i64 er]) ∧ Below w.heap.size w w' := by
  obtain ⟨h1, h2, _, _, h3, h4⟩ := box_four w (a.vals A n c B m d) #[.int .i64 x.W, .int .u64 x.Hi, .int .u64 x.Lo] #[.int .i64 0, .int .u64 0, .int .u64 0] (a.vals A n c B m d) 38 45 45 63 _ rfl
  have HC := aside (cell_err' a hw A n c B m d (w.heap.size + 1 + 1 + 1) hBd 3 x hxw w _ h3 hR hS h1 (by omega) er he he0)
  have H2 := aside h2
  have H3 := aside h3
  have H4 := aside h4
  have heb : (er != 0) = true := by simp [he0]
  obtain ⟨xW, xh, xl⟩ := x
  obtain ⟨nm, kd, aW, aR, aB, cs, ls⟩ := a
  simp only [Num.v, Arr.vals] at *
  clear hR hS hw hxw h1 h2 h3 h4 he
  go_enter Try.func15, Try.ntmps15
  go_wp2_with fail
  refine Calls.mono HC.out ?_
  rintro e w1 ⟨rfl, hb1⟩
  have hz := (hb1.block _ (Array.getElem?_eq_some_iff.1 H2.out).1).trans H2.out
  have z0 := cellOf hz 0
  have z1 := cellOf hz 1
  have z2 := cellOf hz 2
  have fz := frozenOf hz
  have hle : w.heap.size ≤ w.heap.size + 1 + 1 := by omega
  go_wp2_with fail
  refine bodyPost_ret (results_row_tmp rfl _ _ (w.heap.size + 1 + 1) 45 _ (0, 0) _ rfl (set3 hz _ _ _) Try.underlying45 rfl (by kernel_rfl)) rfl ⟨rfl, ?_⟩
  have hb := H3.out.trans (hb1.mono H3.out.size)
  exact ((hb.setCell (p := ⟨_, 0, none⟩) hle _).setCell (p := ⟨_, 1, none⟩) hle _).setCell (p := ⟨_, 2, none⟩) hle _
set_option maxRecDepth 100000 in
set_option maxHeartbeats 800000 in
theorem Read_in (a : Arr) (ho : a.ok) (hkd : a.kd = 3) (A : Option Addr) (n c : Nat) (B : Option Addr) (m d k : Nat) (hBd : B = none → d = 0) (x'W x'H x'L : Int) (hxx : a.cs.getD k zeroNum = ⟨x'W, x'H, x'L⟩) (x : Num) (hxw : x.wf) (hxo : x.ok) (hx0 : x.Hi = 0) (hxk : x.Lo = (k : Int)) (hk : k < n) (w : World) (hR : ReadsNums w A n a.cs) (hS : Reads w .i64 B m a.ls) :
    Calls Try.prog 15 #[.agg (a.vals A n c B m d), x.v] w fun e w' => e = .returned (.tuple #[.agg #[.int .i64 x'W, .int .u64 x'H, .int .u64 x'L], .int .i64 0]) ∧ Below w.heap.size w w' := by
  obtain ⟨h1, h2, _, _, h3, h4⟩ := box_four w (a.vals A n c B m d) #[.int .i64 x.W, .int .u64 x.Hi, .int .u64 x.Lo] #[.int .i64 0, .int .u64 0, .int .u64 0] (a.vals A n c B m d) 38 45 45 63 _ rfl
  have HC := aside (cell_in' a ho A n c B m d (w.heap.size + 1 + 1 + 1) k hBd x hxw hxo hx0 hxk hk w _ h3 hR hS h1 (by omega))
  have hkl : k < a.cs.length := by rw [hR.1]; exact hk
  have HGET := aside (numsV_get a.cs k hkl)
  rw [hxx] at HGET
  have H2 := aside h2
  have H3 := aside h3
  have H4 := aside h4
  obtain ⟨xW, xh, xl⟩ := x
  obtain ⟨nm, kd, aW, aR, aB, cs, ls⟩ := a
  simp only [Num.v, Arr.vals] at *
  subst hx0 hxk hkd
  clear hR hS ho hxw hxo h1 h2 h3 h4 hxx hkl
  go_enter Try.func15, Try.ntmps15
  go_wp2_with fail
  refine Calls.mono HC.out ?_
  rintro e w1 ⟨g, B', rfl, hg0, hg1, hp1, hR1, hB1, hF1⟩
  have hz := hF1.blk H2.out (by omega)
  have z0 := cellOf hz 0
  have z1 := cellOf hz 1
  have z2 := cellOf hz 2
  have fz := frozenOf hz
  have g0 : w1.cell? ⟨g, k * 3, none⟩ = some (.int .i64 x'W) := (cellOf hg1 _).trans (by rw [List.getElem?_toArray]; exact HGET.out.1)
  have g1 : w1.cell? ⟨g, k * 3 + 1, none⟩ = some (.int .u64 x'H) := (cellOf hg1 _).trans (by rw [List.getElem?_toArray]; exact HGET.out.2.1)
  have g2 : w1.cell? ⟨g, k * 3 + 2, none⟩ = some (.int .u64 x'L) := (cellOf hg1 _).trans (by rw [List.getElem?_toArray]; exact HGET.out.2.2)
  have hle : w.heap.size ≤ w.heap.size + 1 + 1 := by omega
  have hn1 : ¬ g = w.heap.size + 1 + 1 := by have := H4.out; omega
  have hn2 : ¬ w.heap.size + 1 + 1 = g := by have := H4.out; omega
  have hb := aside (H3.out.trans (hF1.below (fun i hi => by omega) H3.out.size))
  have HZ := aside hz
  clear hg1 hp1 hR1 hB1 hF1 hz HC H2
  go_wp2_with fail
  refine bodyPost_ret (results_row_tmp rfl _ _ (w.heap.size + 1 + 1) 45 _ (0, 0) _ rfl (set3 HZ.out _ _ _) Try.underlying45 rfl (by kernel_rfl)) rfl ⟨rfl, ?_⟩
  exact ((hb.out.setCell (p := ⟨_, 0, none⟩) hle _).setCell (p := ⟨_, 1, none⟩) hle _).setCell (p := ⟨_, 2, none⟩) hle _
end Go.Proofs.Ytanimonhnngfkaa.Own

/- cells.Write. -/
set_option linter.unusedVariables false
set_option linter.unusedSimpArgs false
namespace Go.Proofs.Ytanimonhnngfkaa.Own
open Go.RowKit

/-- The error of a write. -/
def Arr.writeE (a : Arr) (x v : Num) : Int := if a.cellE 3 x = 1 ∨ v.okB = false ∨ ¬ v.W = a.W then 1 else a.cellE 3 x
/-- cell at a box that is new, its error alone. -/
theorem cell_weak (a : Arr) (hw : a.wf) (A : Option Addr) (n c : Nat) (B : Option Addr) (m d p : Nat) (hBd : B = none → d = 0) (kk : Int) (x : Num) (hxw : x.wf) (w W : World) (hb : Below w.heap.size w W) (hR : ReadsNums w A n a.cs) (hS : Reads w .i64 B m a.ls) (hp : W.heap[p]? = some (.cells (a.vals A n c B m d) 63 (0, 0))) (hpl : w.heap.size ≤ p) (er : Int) (he : a.cellE kk x = er) :
    Calls Try.prog 21 #[.pointer (some ⟨p, 0, none⟩), .int .u8 kk, x.v] W fun e w' => ∃ P q, e = .returned (.tuple #[.pointer P, .int .i64 q, .int .i64 er]) ∧ Foot (fun i => i = p) W w' := by
  by_cases he0 : er = 0
  · subst he0
    unfold Arr.cellE at he
    by_cases h1 : a.okB = true ∧ a.kd = kk ∧ x.okB = true
    · rw [if_pos h1] at he
      obtain ⟨h1, rfl, h3⟩ := h1
      by_cases h4 : x.Hi = 0 ∧ x.Lo < a.cs.length
      · obtain ⟨k, hk⟩ := Int.eq_ofNat_of_zero_le hxw.2.2.1
        refine Calls.mono (cell_in' a (a.ok_of hw h1) A n c B m d p k hBd x hxw (x.okB_iff.1 h3) h4.1 hk (by rw [← hR.1]; omega) w W hb hR hS hp hpl) ?_
        rintro e w1 ⟨g, B', rfl, _, _, _, _, _, hF⟩
        exact ⟨_, _, rfl, hF⟩
      · rw [if_neg h4] at he; exact absurd he (by decide)
    · rw [if_neg h1] at he; exact absurd he (by decide)
  · refine Calls.mono (cell_err' a hw A n c B m d p hBd kk x hxw w W hb hR hS hp hpl er he he0) ?_
    rintro e w1 ⟨rfl, hB⟩
    exact ⟨_, _, rfl, Foot.ofBelow hB _⟩

set_option maxRecDepth 100000 in
set_option maxHeartbeats 1600000 in
theorem Write_err (a : Arr) (hw : a.wf) (A : Option Addr) (n c : Nat) (B : Option Addr) (m d : Nat) (hBd : B = none → d = 0) (x v : Num) (hxw : x.wf) (hvw : v.wf) (er : Int) (he : a.writeE x v = er) (he0 : ¬ er = 0) (w : World) (hR : ReadsNums w A n a.cs) (hS : Reads w .i64 B m a.ls) :
    Calls Try.prog 14 #[.agg (a.vals A n c B m d), x.v, v.v] w fun e w' => e = .returned (.tuple #[.agg zeroVals, .int .i64 er]) ∧ Below w.heap.size w w' := by
  obtain ⟨h1, h2, hv, h0, h3, h4⟩ := box_five w (a.vals A n c B m d) #[.int .i64 x.W, .int .u64 x.Hi, .int .u64 x.Lo] #[.int .i64 v.W, .int .u64 v.Hi, .int .u64 v.Lo] zeroVals (a.vals A n c B m d) 38 45 45 38 63 _ rfl
  obtain ⟨e1, he1⟩ : ∃ e1, a.cellE 3 x = e1 := ⟨_, rfl⟩
  have HC := aside (cell_weak a hw A n c B m d (w.heap.size + 1 + 1 + 1 + 1) hBd 3 x hxw w _ h3 hR hS h1 (by omega) e1 he1)
  have HCHK := aside (fun V => check_any v hvw V)
  have HE := aside (show (if e1 = 1 ∨ v.okB = false ∨ ¬ v.W = a.W then 1 else e1) = er by unfold Arr.writeE at he; rw [he1] at he; exact he)
  have H2 := aside h2
  have H3 := aside h3
  have H4 := aside h4
  have HV := aside hv
  have H0 := aside h0
  clear he he1
  generalize v.okB = vo at *
  obtain ⟨vW, vh, vl⟩ := v
  obtain ⟨xW, xh, xl⟩ := x
  obtain ⟨nm, kd, aW, aR, aB, cs, ls⟩ := a
  simp only [Num.v, Arr.vals, zeroVals] at *
  clear hR hS hw hxw hvw h0 h1 h2 h3 h4 hv
  go_enter Try.func14, Try.ntmps14
  go_wp2_with fail
  refine Calls.mono HC.out ?_
  rintro e w1 ⟨P, q, rfl, hF1⟩
  have hz := hF1.blk H2.out (by omega)
  have hv1 := hF1.blk HV.out (by omega)
  have ha1 := hF1.blk H0.out (by omega)
  have hbw := H3.out.trans (hF1.below (fun i hi => by omega) H3.out.size)
  have z0 := cellOf hz 0
  have z1 := cellOf hz 1
  have z2 := cellOf hz 2
  have z3 := cellOf hz 3
  have z4 := cellOf hz 4
  have z5 := cellOf hz 5
  have z6 := cellOf hz 6
  have fz := frozenOf hz
  have v0 := cellOf hv1 0
  have v1 := cellOf hv1 1
  have v2 := cellOf hv1 2
  have a2 := cellOf ha1 2
  have hle : w.heap.size ≤ w.heap.size + 1 + 1 + 1 := by omega
  simp only [List.getElem?_toArray, List.getElem?_cons_zero, List.getElem?_cons_succ] at z0 z1 z2 z3 z4 z5 z6 v0 v1 v2 a2
  by_cases c1 : e1 = 1
  · subst c1
    obtain rfl : (1 : Int) = er := by have := HE.out; rw [if_pos (.inl rfl)] at this; exact this
    go_wp2_with fail
    refine bodyPost_ret (results_row_tmp rfl _ _ (w.heap.size + 1 + 1 + 1) 38 _ (0, 0) _ rfl (set7 hz _ _ _ _ _ _ _) Try.underlying38 rfl (by kernel_rfl)) rfl ⟨rfl, ?_⟩
    exact ((((((hbw.setCell (p := ⟨_, 0, none⟩) hle _).setCell (p := ⟨_, 1, none⟩) hle _).setCell (p := ⟨_, 2, none⟩) hle _).setCell (p := ⟨_, 3, none⟩) hle _).setCell (p := ⟨_, 4, none⟩) hle _).setCell (p := ⟨_, 5, none⟩) hle _).setCell (p := ⟨_, 6, none⟩) hle _
  · have c1b : (e1 == 1) = false := by simp [c1]
    have HZ := aside hz
    have HA1 := aside ha1
    have HBW := aside hbw
    clear hz hv1 ha1 hbw hF1 z0 z1 z2 z3 z4 z5 z6 a2 fz
    go_wp2_with fail
    refine Calls.mono (HCHK.out _) ?_
    rintro e w2 ⟨rfl, hb2⟩
    have hz := (hb2.block _ (Array.getElem?_eq_some_iff.1 HZ.out).1).trans HZ.out
    have ha1 := (hb2.block _ (Array.getElem?_eq_some_iff.1 HA1.out).1).trans HA1.out
    have v0' := (hb2.cell (p := ⟨w.heap.size + 1 + 1, 0, none⟩) (World.block_lt_of_cell? _ _ v0)).trans v0
    have z0 := cellOf hz 0
    have z1 := cellOf hz 1
    have z2 := cellOf hz 2
    have z3 := cellOf hz 3
    have z4 := cellOf hz 4
    have z5 := cellOf hz 5
    have z6 := cellOf hz 6
    have fz := frozenOf hz
    have a2 := cellOf ha1 2
    have hbw := HBW.out.trans (hb2.mono HBW.out.size)
    simp only [List.getElem?_toArray, List.getElem?_cons_zero, List.getElem?_cons_succ] at z0 z1 z2 z3 z4 z5 z6 a2
    cases vo with
    | false =>
      obtain rfl : (1 : Int) = er := by have := HE.out; rw [if_pos (.inr (.inl rfl))] at this; exact this
      go_wp2_with fail
      refine bodyPost_ret (results_row_tmp rfl _ _ (w.heap.size + 1 + 1 + 1) 38 _ (0, 0) _ rfl (set7 hz _ _ _ _ _ _ _) Try.underlying38 rfl (by kernel_rfl)) rfl ⟨rfl, ?_⟩
      exact ((((((hbw.setCell (p := ⟨_, 0, none⟩) hle _).setCell (p := ⟨_, 1, none⟩) hle _).setCell (p := ⟨_, 2, none⟩) hle _).setCell (p := ⟨_, 3, none⟩) hle _).setCell (p := ⟨_, 4, none⟩) hle _).setCell (p := ⟨_, 5, none⟩) hle _).setCell (p := ⟨_, 6, none⟩) hle _
    | true =>
      by_cases c3 : vW = aW
      · have c3b : (vW != aW) = false := by simp [c3]
        obtain rfl : e1 = er := by
          have := HE.out
          rwa [if_neg (by rintro (h | h | h); exact c1 h; cases h; exact h c3)] at this
        have c4b : (e1 != 0) = true := by simp [he0]
        go_wp2_with fail
        refine bodyPost_ret (results_row_tmp rfl _ _ (w.heap.size + 1 + 1 + 1) 38 _ (0, 0) _ rfl (set7 hz _ _ _ _ _ _ _) Try.underlying38 rfl (by kernel_rfl)) rfl ⟨rfl, ?_⟩
        exact ((((((hbw.setCell (p := ⟨_, 0, none⟩) hle _).setCell (p := ⟨_, 1, none⟩) hle _).setCell (p := ⟨_, 2, none⟩) hle _).setCell (p := ⟨_, 3, none⟩) hle _).setCell (p := ⟨_, 4, none⟩) hle _).setCell (p := ⟨_, 5, none⟩) hle _).setCell (p := ⟨_, 6, none⟩) hle _
      · have c3b : (vW != aW) = true := by simp [c3]
        obtain rfl : (1 : Int) = er := by have := HE.out; rw [if_pos (.inr (.inr c3))] at this; exact this
        go_wp2_with fail
        refine bodyPost_ret (results_row_tmp rfl _ _ (w.heap.size + 1 + 1 + 1) 38 _ (0, 0) _ rfl (set7 hz _ _ _ _ _ _ _) Try.underlying38 rfl (by kernel_rfl)) rfl ⟨rfl, ?_⟩
        exact ((((((hbw.setCell (p := ⟨_, 0, none⟩) hle _).setCell (p := ⟨_, 1, none⟩) hle _).setCell (p := ⟨_, 2, none⟩) hle _).setCell (p := ⟨_, 3, none⟩) hle _).setCell (p := ⟨_, 4, none⟩) hle _).setCell (p := ⟨_, 5, none⟩) hle _).setCell (p := ⟨_, 6, none⟩) hle _

theorem numsV_setAll (l : List Num) (v : Num) : ∀ k, k < l.length → (((numsV l).set (k * 3) (.int .i64 v.W)).set (k * 3 + 1) (.int .u64 v.Hi)).set (k * 3 + 2) (.int .u64 v.Lo) = numsV (l.set k v) := by
  induction l with
  | nil => intro k hk; simp at hk
  | cons x l ih =>
    intro k hk
    have e : ∀ (x : Num) (l : List Num), numsV (x :: l) = .int .i64 x.W :: .int .u64 x.Hi :: .int .u64 x.Lo :: numsV l := fun x l => by unfold numsV; rw [List.flatMap_cons]; rfl
    cases k with
    | zero =>
      show (((numsV (x :: l)).set 0 (.int .i64 v.W)).set 1 (.int .u64 v.Hi)).set 2 (.int .u64 v.Lo) = numsV (v :: l)
      rw [e, e]
      rfl
    | succ k =>
      rw [List.set_cons_succ, e, e, show (k + 1) * 3 = k * 3 + 1 + 1 + 1 by omega]
      simp only [List.set_cons_succ]
      rw [ih k (by simpa using hk)]
set_option maxRecDepth 100000 in
set_option maxHeartbeats 1600000 in
theorem Write_in (a : Arr) (ho : a.ok) (hkd : a.kd = 3) (A : Option Addr) (n c : Nat) (B : Option Addr) (m d k : Nat) (hBd : B = none → d = 0) (x v : Num) (hxw : x.wf) (hxo : x.ok) (hx0 : x.Hi = 0) (hxk : x.Lo = (k : Int)) (hk : k < n) (hvw : v.wf) (hvo : v.ok) (hvW : v.W = a.W) (w : World) (hR : ReadsNums w A n a.cs) (hS : Reads w .i64 B m a.ls) :
    Calls Try.prog 14 #[.agg (a.vals A n c B m d), x.v, v.v] w fun e w' => ∃ g B', e = .returned (.tuple #[.agg ({ a with cs := a.cs.set k v }.vals (some ⟨g, 0, none⟩) n n B' m m), .int .i64 0]) ∧ w.heap.size ≤ g ∧ w'.heap[g]? = some (.cells (numsV (a.cs.set k v)).toArray 45 (0, 0)) ∧ Reads w' .i64 B' m a.ls ∧ (B' = none ∨ ∃ b, B' = some ⟨b, 0, none⟩ ∧ g < b) ∧ Below w.heap.size w w' := by
  obtain ⟨h1, h2, hv, h0, h3, h4⟩ := box_five w (a.vals A n c B m d) #[.int .i64 x.W, .int .u64 x.Hi, .int .u64 x.Lo] #[.int .i64 v.W, .int .u64 v.Hi, .int .u64 v.Lo] zeroVals (a.vals A n c B m d) 38 45 45 38 63 _ rfl
  have HC := aside (cell_in' a ho A n c B m d (w.heap.size + 1 + 1 + 1 + 1) k hBd x hxw hxo hx0 hxk hk w _ h3 hR hS h1 (by omega))
  have HCHK := aside (fun V => check_good v hvw hvo V)
  have hkl : k < a.cs.length := by rw [hR.1]; exact hk
  have HSET := aside (numsV_setAll a.cs v k hkl)
  have HLEN := aside (show k * 3 + 2 < (numsV a.cs).length by rw [numsV_length]; omega)
  have HGET := aside (numsV_get a.cs k hkl)
  have H2 := aside h2
  have H3 := aside h3
  have H4 := aside h4
  have HV := aside hv
  have H0 := aside h0
  generalize hcs : a.cs.set k v = cs' at *
  generalize a.cs.getD k zeroNum = x' at *
  obtain ⟨vW, vh, vl⟩ := v
  obtain ⟨xW, xh, xl⟩ := x
  obtain ⟨nm, kd, aW, aR, aB, cs, ls⟩ := a
  simp only [Num.v, Arr.vals, zeroVals] at *
  subst hx0 hxk hkd hvW
  clear hR hS ho hxw hxo hvw hvo h0 h1 h2 h3 h4 hv hkl hcs
  go_enter Try.func14, Try.ntmps14
  go_wp2_with fail
  refine Calls.mono HC.out ?_
  rintro e w1 ⟨g, B', rfl, hg0, hg1, hp1, hR1, hB1, hF1⟩
  have HZ := aside (hF1.blk H2.out (by omega))
  have hv1 := hF1.blk HV.out (by omega)
  have HA := aside (hF1.blk H0.out (by omega))
  have HBW := aside (H3.out.trans (hF1.below (fun i hi => by omega) H3.out.size))
  have HG1 := aside hg1
  have HP1 := aside hp1
  have HR1 := aside hR1
  have HV1 := aside hv1
  have v0 := cellOf hv1 0
  have v1 := cellOf hv1 1
  have v2 := cellOf hv1 2
  simp only [List.getElem?_toArray, List.getElem?_cons_zero, List.getElem?_cons_succ] at v0 v1 v2
  clear hF1 hv1 hg1 hp1 hR1 HC H2 HV H0
  go_wp2_with fail
  refine Calls.mono (HCHK.out _) ?_
  rintro e w2 ⟨rfl, hb2⟩
  have hz := (hb2.block _ (Array.getElem?_eq_some_iff.1 HZ.out).1).trans HZ.out
  have ha2 := (hb2.block _ (Array.getElem?_eq_some_iff.1 HA.out).1).trans HA.out
  have hg2 := (hb2.block _ (Array.getElem?_eq_some_iff.1 HG1.out).1).trans HG1.out
  have hp2 := (hb2.block _ (Array.getElem?_eq_some_iff.1 HP1.out).1).trans HP1.out
  have hv2 := (hb2.block _ (Array.getElem?_eq_some_iff.1 HV1.out).1).trans HV1.out
  clear v0 v1 v2
  have v0 := cellOf hv2 0
  have v1 := cellOf hv2 1
  have v2 := cellOf hv2 2
  have z0 := cellOf hz 0
  have z1 := cellOf hz 1
  have z2 := cellOf hz 2
  have z3 := cellOf hz 3
  have z4 := cellOf hz 4
  have z5 := cellOf hz 5
  have z6 := cellOf hz 6
  have fz := frozenOf hz
  have a2 := cellOf ha2 2
  have q0 := cellOf hp2 0
  have q1 := cellOf hp2 1
  have q2 := cellOf hp2 2
  have q3 := cellOf hp2 3
  have q4 := cellOf hp2 4
  have q5 := cellOf hp2 5
  have q6 := cellOf hp2 6
  have fg := frozenOf hg2
  have g0 : w2.cell? ⟨g, k * 3, none⟩ = some (.int .i64 x'.W) := (cellOf hg2 _).trans (by rw [List.getElem?_toArray]; exact HGET.out.1)
  have g1 : w2.cell? ⟨g, k * 3 + 1, none⟩ = some (.int .u64 x'.Hi) := (cellOf hg2 _).trans (by rw [List.getElem?_toArray]; exact HGET.out.2.1)
  have g2 : w2.cell? ⟨g, k * 3 + 2, none⟩ = some (.int .u64 x'.Lo) := (cellOf hg2 _).trans (by rw [List.getElem?_toArray]; exact HGET.out.2.2)
  simp only [List.getElem?_toArray, List.getElem?_cons_zero, List.getElem?_cons_succ] at z0 z1 z2 z3 z4 z5 z6 a2 q0 q1 q2 q3 q4 q5 q6 v0 v1 v2
  have h4' := H4.out
  have hn1 : ¬ g = w.heap.size + 1 + 1 + 1 + 1 := by omega
  have hn2 : ¬ g = w.heap.size + 1 + 1 + 1 := by omega
  have hn3 : ¬ w.heap.size + 1 + 1 + 1 + 1 = g := by omega
  have hn4 : ¬ w.heap.size + 1 + 1 + 1 = g := by omega
  have hn5 : ¬ g = w.heap.size + 1 + 1 := by omega
  have hn6 : ¬ w.heap.size + 1 + 1 = g := by omega
  have HZ2 := aside hz
  have HG2 := aside hg2
  have HR2 := aside (HR1.out.below hb2)
  have HBW2 := aside (HBW.out.trans (hb2.mono HBW.out.size))
  clear hz ha2 hg2 hp2 hv2 hb2 HZ HA HG1 HP1 HR1 HV1 HBW h4' HGET
  go_wp2_with fail
  have hX := setOther (setOther (setOther HZ2.out (p := ⟨g, k * 3, none⟩) (v := .int .i64 vW) hn2) (p := ⟨g, k * 3 + 1, none⟩) (v := .int .u64 vh) hn2) (p := ⟨g, k * 3 + 2, none⟩) (v := .int .u64 vl) hn2
  have hG := setCell_heap (setCell_heap (setCell_heap HG2.out (k * 3) (.int .i64 vW)) (k * 3 + 1) (.int .u64 vh)) (k * 3 + 2) (.int .u64 vl)
  rw [List.setIfInBounds_toArray, List.setIfInBounds_toArray, List.setIfInBounds_toArray, HSET.out] at hG
  have hle : w.heap.size ≤ w.heap.size + 1 + 1 + 1 := by omega
  have hle2 : w.heap.size ≤ g := by have := H4.out; omega
  refine bodyPost_ret (results_row_tmp rfl _ _ (w.heap.size + 1 + 1 + 1) 38 _ (0, 0) _ rfl (set7 hX _ _ _ _ _ _ _) Try.underlying38 rfl (by kernel_rfl)) rfl ⟨g, B', rfl, hle2, ?_, ?_, hB1, ?_⟩
  · exact setOther (setOther (setOther (setOther (setOther (setOther (setOther hG hn4) hn4) hn4) hn4) hn4) hn4) hn4
  · refine HR2.out.foot (F := fun i => i = g ∨ i = w.heap.size + 1 + 1 + 1) (((((((((((Foot.refl (fun i => i = g ∨ i = w.heap.size + 1 + 1 + 1) w2).setCell (p := ⟨g, k * 3, none⟩) (.inl (.inl rfl)) (.int .i64 vW)).setCell (p := ⟨g, k * 3 + 1, none⟩) (.inl (.inl rfl)) (.int .u64 vh)).setCell (p := ⟨g, k * 3 + 2, none⟩) (.inl (.inl rfl)) (.int .u64 vl)).setCell (p := ⟨w.heap.size + 1 + 1 + 1, 0, none⟩) (.inl (.inr rfl)) _).setCell (p := ⟨w.heap.size + 1 + 1 + 1, 1, none⟩) (.inl (.inr rfl)) _).setCell (p := ⟨w.heap.size + 1 + 1 + 1, 2, none⟩) (.inl (.inr rfl)) _).setCell (p := ⟨w.heap.size + 1 + 1 + 1, 3, none⟩) (.inl (.inr rfl)) _).setCell (p := ⟨w.heap.size + 1 + 1 + 1, 4, none⟩) (.inl (.inr rfl)) _).setCell (p := ⟨w.heap.size + 1 + 1 + 1, 5, none⟩) (.inl (.inr rfl)) _).setCell (p := ⟨w.heap.size + 1 + 1 + 1, 6, none⟩) (.inl (.inr rfl)) _) fun ad e h0 => ?_
    rcases hB1 with h | ⟨b, h, h5⟩
    · rw [h] at e; cases e
    · rw [h] at e; cases e; show ¬ (b = g ∨ b = w.heap.size + 1 + 1 + 1); have := H4.out; omega
  · exact (((((((((HBW2.out.setCell (p := ⟨g, k * 3, none⟩) hle2 _).setCell (p := ⟨g, k * 3 + 1, none⟩) hle2 _).setCell (p := ⟨g, k * 3 + 2, none⟩) hle2 _).setCell (p := ⟨_, 0, none⟩) hle _).setCell (p := ⟨_, 1, none⟩) hle _).setCell (p := ⟨_, 2, none⟩) hle _).setCell (p := ⟨_, 3, none⟩) hle _).setCell (p := ⟨_, 4, none⟩) hle _).setCell (p := ⟨_, 5, none⟩) hle _).setCell (p := ⟨_, 6, none⟩) hle _
end Go.Proofs.Ytanimonhnngfkaa.Own

/- cells.Random. -/
set_option linter.unusedVariables false
set_option linter.unusedSimpArgs false
namespace Go.Proofs.Ytanimonhnngfkaa.Own
open Go.RowKit

/-- The next number behind one. -/
def nextR (x : Int) : Int := IntKind.u64.wrap (IntKind.u64.wrap (x * 6364136223846793005) + 1442695040888963407)
theorem step_any (x : Int) (w : World) : Calls Try.prog 22 #[.int .u64 x] w fun e w' => e = .returned (.int .u64 (nextR x)) ∧ w = w' := by
  unfold nextR
  go_enter Try.func22, Try.ntmps22
  go_wp2
  go_ret
  exact ⟨rfl, rfl⟩
theorem nextR_range (x : Int) : 0 ≤ nextR x ∧ nextR x ≤ 18446744073709551615 := by
  unfold nextR
  rw [IntKind.wrap_u64]
  omega
set_option maxRecDepth 100000 in
set_option maxHeartbeats 800000 in
theorem Random_ok (x : Int) (n : Nat) (h1 : 1 ≤ n) (h2 : n ≤ 128) (w : World) :
    Calls Try.prog 11 #[.int .u64 x, .int .i64 (n : Int)] w fun e w' => e = .returned (.tuple #[.agg #[.int .i64 (n : Int), .int .u64 (cutHi n (nextR x)), .int .u64 (cutLo n (nextR (nextR x)))], .int .u64 (nextR (nextR x))]) ∧ Below w.heap.size w w' := by
  have HS1 := aside (fun V => step_any x V)
  have HS2 := aside (fun V => step_any (nextR x) V)
  have HO := aside (fun V => of_any n (nextR x) (nextR (nextR x)) V h1 h2 (nextR_range _) (nextR_range _))
  unfold bitsV at HO
  generalize nextR x = y at *
  generalize nextR y = z at *
  have e1 : decide ((n : Int) < 1) = false := decide_eq_false (by omega)
  have e2 : decide (128 < (n : Int)) = false := decide_eq_false (by omega)
  go_enter Try.func11, Try.ntmps11
  go_wp2_with fail
  refine Calls.mono (HS1.out _) ?_
  rintro e w1 ⟨rfl, rfl⟩
  go_wp2_with fail
  refine Calls.mono (HS2.out _) ?_
  rintro e w1 ⟨rfl, rfl⟩
  go_wp2_with fail
  refine Calls.mono (HO.out _) ?_
  rintro e w2 ⟨rfl, hb2⟩
  have hbw : Below w.heap.size w w2 := by
    have h := (Below.refl w.heap.size w).alloc (Nat.le_refl _) (.cells #[.int .i64 0, .int .u64 0, .int .u64 0] 45)
    exact h.trans (hb2.mono h.size)
  have hz := (hb2.block _ (Array.getElem?_eq_some_iff.1 (heap_alloc_new w (.cells #[.int .i64 0, .int .u64 0, .int .u64 0] 45))).1).trans (heap_alloc_new w (.cells #[.int .i64 0, .int .u64 0, .int .u64 0] 45))
  have hzA := heapOld w2 (.cells #[.int .i64 (n : Int), .int .u64 (cutHi n y), .int .u64 (cutLo n z)] 45) _ _ hz
  have hbA : Below w.heap.size w (w2.alloc (.cells #[.int .i64 (n : Int), .int .u64 (cutHi n y), .int .u64 (cutLo n z)] 45)) := hbw.alloc hbw.size _
  have z0 := cellOf hz 0
  have z1 := cellOf hz 1
  have z2 := cellOf hz 2
  have fz := frozenOf hz
  have hlt : w.heap.size < w2.heap.size := (Array.getElem?_eq_some_iff.1 hz).1
  have HZ := aside hz
  have HB := aside hbw
  clear hb2 hbw hz hzA hbA
  go_wp2_with fail
  refine bodyPost_ret (results_row_tmp rfl _ _ w.heap.size 45 _ (0, 0) _ rfl (heapOld _ _ _ _ (set3 HZ.out _ _ _)) Try.underlying45 rfl (by kernel_rfl)) rfl ⟨rfl, ?_⟩
  have hb := ((HB.out.setCell (p := ⟨w.heap.size, 0, none⟩) (Nat.le_refl _) (.int .i64 (n : Int))).setCell (p := ⟨w.heap.size, 1, none⟩) (Nat.le_refl _) (.int .u64 (cutHi n y))).setCell (p := ⟨w.heap.size, 2, none⟩) (Nat.le_refl _) (.int .u64 (cutLo n z))
  exact hb.alloc hb.size _
end Go.Proofs.Ytanimonhnngfkaa.Own

/- cells.Random, of any width. -/
set_option linter.unusedVariables false
set_option linter.unusedSimpArgs false
namespace Go.Proofs.Ytanimonhnngfkaa.Own
open Go.RowKit

set_option maxRecDepth 100000 in
set_option maxHeartbeats 800000 in
theorem Random_no (x n : Int) (h : n < 1 ∨ 128 < n) (w : World) :
    Calls Try.prog 11 #[.int .u64 x, .int .i64 n] w fun e w' => e = .returned (.tuple #[.agg #[.int .i64 0, .int .u64 0, .int .u64 0], .int .u64 x]) ∧ Below w.heap.size w w' := by
  have hB := (Below.refl w.heap.size w).alloc (Nat.le_refl _) (.cells #[.int .i64 0, .int .u64 0, .int .u64 0] 45)
  by_cases h1 : n < 1
  · have e1 : decide (n < 1) = true := decide_eq_true h1
    clear h h1
    go_enter Try.func11, Try.ntmps11
    go_wp2
    exact bodyPost_ret (results_row_tmp rfl _ _ w.heap.size 45 _ (0,0) _ rfl (heap_alloc_new ..) Try.underlying45 rfl (by kernel_rfl)) rfl ⟨rfl, hB⟩
  · have e1 : decide (n < 1) = false := decide_eq_false h1
    have e2 : decide (128 < n) = true := decide_eq_true (by omega)
    clear h h1
    go_enter Try.func11, Try.ntmps11
    go_wp2
    exact bodyPost_ret (results_row_tmp rfl _ _ w.heap.size 45 _ (0,0) _ rfl (heap_alloc_new ..) Try.underlying45 rfl (by kernel_rfl)) rfl ⟨rfl, hB⟩
end Go.Proofs.Ytanimonhnngfkaa.Own

/- lives: two arrays are made, one is counted. -/
set_option linter.unusedVariables false
set_option linter.unusedSimpArgs false
namespace Go.Proofs.Ytanimonhnngfkaa.Own
open Go.RowKit

def liveDecs : List Dec := [⟨4, ⟨#[99]⟩, 2, 0, 0⟩, ⟨5, ⟨#[109]⟩, 1, 3, 5⟩]
def live0 : Arr := ⟨⟨#[99]⟩, 4, 64, 0, 0, [⟨64, 0, 0⟩, ⟨64, 0, 0⟩], []⟩
def live1 : Arr := ⟨⟨#[109]⟩, 5, 64, 3, 5, [⟨64, 0, 5⟩], [0]⟩
theorem liveDecs_ok : ∀ j, j < 2 → (liveDecs.getD j zeroDec).ok := by
  intro j hj
  match j, hj with
  | 0, _ => exact ⟨⟨by show 1 ≤ 2; omega, by show 2 ≤ 4096; omega⟩, .inl rfl⟩
  | 1, _ => exact ⟨⟨by show 1 ≤ 1; omega, by show 1 ≤ 4096; omega⟩, .inr ⟨rfl, by show (0:Int) ≤ 3; omega, by show (3:Int) ≤ 65535; omega, by show (1:Int) ≤ 5; omega, by show (5:Int) ≤ 65535; omega⟩⟩
theorem liveArrs : liveDecs.map Dec.arr = [live0, live1] := rfl
theorem live0_ok : live0.ok := Dec.arr_ok _ (liveDecs_ok 0 (by omega))
theorem live1_ok : live1.ok := Dec.arr_ok _ (liveDecs_ok 1 (by omega))
theorem live_ok : ∀ j, j < 2 → ([live0, live1].getD j zeroArr).ok := by
  intro j hj
  match j, hj with
  | 0, _ => exact live0_ok
  | 1, _ => exact live1_ok
def decCells (kd : Int) (nm : ByteArray) (N R B : Int) : List Value := [.int .u8 kd, .string nm, .slice none 0 0, .int .i64 0, .int .i64 N, .int .i64 R, .int .i64 B, .slice none 0 0, .slice none 0 0, .slice none 0 0, .string ⟨#[]⟩, .slice none 0 0, .slice none 0 0, .slice none 0 0, .int .i64 0]
/-- New of the two declarations. -/
theorem New_live (w : World) (cs : Array Value) (hcs : cs.toList = decCells 4 ⟨#[99]⟩ 2 0 0 ++ decCells 5 ⟨#[109]⟩ 1 3 5) :
    Calls Try.prog 8 #[.slice (some ⟨w.heap.size, 0, none⟩) 2 2] (w.alloc (.cells cs 33)) fun e w' => ∃ A c, e = .returned (.slice A 2 c) ∧ RowAt w' A 2 [live0, live1] ∧ Below w.heap.size w w' := by
  have hb : Below w.heap.size w (w.alloc (.cells cs 33)) := (Below.refl _ _).alloc (Nat.le_refl _) _
  have hh := heap_alloc_new w (.cells cs 33)
  refine Calls.mono (New_any liveDecs w.heap.size 2 2 (w.alloc (.cells cs 33)) rfl (by omega) liveDecs_ok ?_ (Array.getElem?_eq_some_iff.1 hh).1) ?_
  · intro j i hj hi
    rw [cellOf hh, ← Array.getElem?_toList, hcs]
    match j, hj with
    | 0, _ => rw [List.getElem?_append_left (by simpa [decCells] using hi), Nat.zero_mul, Nat.zero_add]; rfl
    | 1, _ => rw [List.getElem?_append_right (by show 15 ≤ 1 * 15 + i; omega), show 1 * 15 + i - (decCells 4 ⟨#[99]⟩ 2 0 0).length = i by show 1 * 15 + i - 15 = i; omega]; rfl
  · rintro e w' ⟨v, rfl, hA, hB⟩
    rw [liveArrs] at hA
    obtain ⟨A, c, rfl, hR⟩ := hA.rowAt live_ok (by show 2 ≤ 1048576; omega)
    exact ⟨A, c, rfl, hR, hb.trans (hB.mono hb.size)⟩

theorem num8_ok (x : Int) (h0 : 0 ≤ x) (h1 : x ≤ 255) : (⟨8, 0, x⟩ : Num).wf ∧ (⟨8, 0, x⟩ : Num).ok := by
  refine ⟨⟨⟨by show (-9223372036854775808:Int) ≤ 8; omega, by show (8:Int) ≤ 9223372036854775807; omega⟩, ⟨by show (0:Int) ≤ 0; omega, by show (0:Int) ≤ 18446744073709551615; omega⟩, h0, by show x ≤ 18446744073709551615; omega⟩, by show (1:Int) ≤ 8; omega, by show (8:Int) ≤ 128; omega, ?_, ?_⟩
  · show (0:Int) = cutHi 8 0
    rfl
  · show cutLo 8 x = x
    unfold cutLo
    rw [if_pos (by omega)]
    omega
set_option maxRecDepth 100000 in
set_option maxHeartbeats 800000 in
theorem lives_any (w : World) : Calls Try.prog 9 #[] w fun e w' => e = .returned (.bool true) ∧ Below w.heap.size w w' := by
  have HN := aside (New_live w #[.int .u8 4, .string ⟨#[99]⟩, .slice none 0 0, .int .i64 0, .int .i64 2, .int .i64 0, .int .i64 0, .slice none 0 0, .slice none 0 0, .slice none 0 0, .string ⟨#[]⟩, .slice none 0 0, .slice none 0 0, .slice none 0 0, .int .i64 0, .int .u8 5, .string ⟨#[109]⟩, .slice none 0 0, .int .i64 0, .int .i64 1, .int .i64 3, .int .i64 5, .slice none 0 0, .slice none 0 0, .slice none 0 0, .string ⟨#[]⟩, .slice none 0 0, .slice none 0 0, .slice none 0 0, .int .i64 0] rfl)
  go_enter Try.func9, Try.ntmps9
  go_wp2_with fail
  refine Calls.mono HN.out ?_
  rintro e w1 ⟨A, c, rfl, hR, hb1⟩
  obtain ⟨b, off, hA, hblt, hrs⟩ := hR.2.2 (by omega)
  subst hA
  obtain ⟨A0, n0, c0, B0, m0, d0, hc0, hr0, hs0, hB0⟩ := hrs 0 (by omega)
  obtain ⟨A1, n1, c1, B1, m1, d1, hc1, hr1, hs1, _⟩ := hrs 1 (by omega)
  obtain rfl : 2 = n0 := hr0.1
  obtain rfl : 1 = n1 := hr1.1
  obtain ⟨b1, o1, hA1, hlt1, hq1⟩ := hr1.2.2 (by omega)
  subst hA1
  have hq : w1.cell? ⟨b1, o1 + 2, none⟩ = some (.int .u64 5) := (hq1 0 (by omega)).2.2
  have l0 : w1.cell? ⟨b, off, none⟩ = some (.string ⟨#[99]⟩) := hc0 0 _ rfl
  have l1 : w1.cell? ⟨b, off + 1, none⟩ = some (.int .u8 4) := hc0 1 _ rfl
  have l2 : w1.cell? ⟨b, off + 2, none⟩ = some (.int .i64 64) := hc0 2 _ rfl
  have l3 : w1.cell? ⟨b, off + 3, none⟩ = some (.int .i64 0) := hc0 3 _ rfl
  have l4 : w1.cell? ⟨b, off + 4, none⟩ = some (.int .i64 0) := hc0 4 _ rfl
  have l5 : w1.cell? ⟨b, off + 5, none⟩ = some (.slice A0 2 c0) := hc0 5 _ rfl
  have l6 : w1.cell? ⟨b, off + 6, none⟩ = some (.slice B0 m0 d0) := hc0 6 _ rfl
  have r5 : w1.cell? ⟨b, off + 7 + 5, none⟩ = some (.slice (some ⟨b1, o1, none⟩) 1 c1) := hc1 5 _ rfl
  have HR := aside hR
  have HR0 := aside hr0
  have HS0 := aside hs0
  clear hr1 hs1 hr0 hs0 hrs hR hc0 hc1 hq1
  have HL := aside (fun (V : World) (h : Below w1.heap.size w1 V) => (⟨⟨(h.cell (p := ⟨b, off, none⟩) hblt).trans l0, (h.cell (p := ⟨b, off + 1, none⟩) hblt).trans l1, (h.cell (p := ⟨b, off + 2, none⟩) hblt).trans l2, (h.cell (p := ⟨b, off + 3, none⟩) hblt).trans l3⟩, (h.cell (p := ⟨b, off + 4, none⟩) hblt).trans l4, (h.cell (p := ⟨b, off + 5, none⟩) hblt).trans l5, (h.cell (p := ⟨b, off + 6, none⟩) hblt).trans l6⟩ : (V.cell? ⟨b, off, none⟩ = some (.string ⟨#[99]⟩) ∧ V.cell? ⟨b, off + 1, none⟩ = some (.int .u8 4) ∧ V.cell? ⟨b, off + 2, none⟩ = some (.int .i64 64) ∧ V.cell? ⟨b, off + 3, none⟩ = some (.int .i64 0)) ∧ V.cell? ⟨b, off + 4, none⟩ = some (.int .i64 0) ∧ V.cell? ⟨b, off + 5, none⟩ = some (.slice A0 2 c0) ∧ V.cell? ⟨b, off + 6, none⟩ = some (.slice B0 m0 d0)))
  have HCI := aside (fun (V : World) (h : Below w1.heap.size w1 V) => Count_in live0 live0_ok rfl A0 2 c0 B0 m0 d0 1 hB0 64 0 0 rfl ⟨8, 0, 1⟩ (num8_ok 1 (by omega) (by omega)).1 (num8_ok 1 (by omega) (by omega)).2 rfl rfl (by omega) V (HR0.out.below h) (HS0.out.below h))
  have HCO := aside (fun (V : World) (h : Below w1.heap.size w1 V) => Count_out live0 live0_ok rfl A0 2 c0 B0 m0 d0 2 hB0 ⟨8, 0, 2⟩ (num8_ok 2 (by omega) (by omega)).1 (num8_ok 2 (by omega) (by omega)).2 rfl rfl (by omega) (by omega) V (HR0.out.below h) (HS0.out.below h))
  simp only [Arr.vals, live0, Num.v, zeroVals] at HCI HCO
  clear HR0 HS0
  go_wp2_with fail
  refine Calls.mono (Check_ok [live0, live1] live_ok _ _ _ w1 HR.out) ?_
  rintro e w2 ⟨rfl, hb2⟩
  clear l0 l1 l2 l3 l4 l5 l6 r5 hq
  obtain ⟨⟨l0, l1, l2, l3⟩, l4, l5, l6⟩ := HL.out _ hb2
  go_wp2_with fail
  refine Calls.mono (HCI.out _ hb2) ?_
  rintro e w3 ⟨g, B', rfl, hg0, hg1, _, _, hb3⟩
  have hb13 := hb2.trans (hb3.mono hb2.size)
  have hbA := hb13.alloc hb13.size (.cells #[.string ⟨#[99]⟩, .int .u8 4, .int .i64 64, .int .i64 0, .int .i64 0, .slice (some ⟨g, 0, none⟩) 2 2, .slice B' m0 m0] 38)
  clear l0 l1 l2 l3 l4 l5 l6
  obtain ⟨⟨l0, l1, l2, l3⟩, l4, l5, l6⟩ := HL.out _ hbA
  go_wp2_with fail
  refine Calls.mono (HCO.out _ hbA) ?_
  rintro e w4 ⟨rfl, hb4⟩
  have hbx := heap_alloc_new w3 (.cells #[.string ⟨#[99]⟩, .int .u8 4, .int .i64 64, .int .i64 0, .int .i64 0, .slice (some ⟨g, 0, none⟩) 2 2, .slice B' m0 m0] 38)
  have hbx4 := (hb4.block _ (Array.getElem?_eq_some_iff.1 hbx).1).trans hbx
  have hgA := heapOld w3 (.cells #[.string ⟨#[99]⟩, .int .u8 4, .int .i64 64, .int .i64 0, .int .i64 0, .slice (some ⟨g, 0, none⟩) 2 2, .slice B' m0 m0] 38) _ _ hg1
  have hg4 := (hb4.block _ (Array.getElem?_eq_some_iff.1 hgA).1).trans hgA
  have x5 : w4.cell? ⟨w3.heap.size, 5, none⟩ = some (.slice (some ⟨g, 0, none⟩) 2 2) := cellOf hbx4 5
  have y2 : w4.cell? ⟨g, 2, none⟩ = some (.int .u64 0) := cellOf hg4 2
  have y5 : w4.cell? ⟨g, 5, none⟩ = some (.int .u64 1) := cellOf hg4 5
  have hgl : g < w4.heap.size := (Array.getElem?_eq_some_iff.1 hg4).1
  have hxl : w3.heap.size < w4.heap.size := (Array.getElem?_eq_some_iff.1 hbx4).1
  have HB := aside (hbA.trans (hb4.mono hbA.size))
  have HB1 := aside hb1
  clear l0 l1 l2 l3 l4 l5 l6 hg1 hgA hg4 hbx hbx4 hbA hb13 hb3 hb2 hb1 HL HCI HCO HR HN
  go_wp2_with fail
  go_ret
  have hB := HB1.out.trans (HB.out.mono HB1.out.size)
  exact ⟨rfl, hB.alloc hB.size _⟩
end Go.Proofs.Ytanimonhnngfkaa.Own
