/-
  cells.Count, of an array that may be.
-/
import Derived.Test.YtanimonhnngfkaaApA
import Derived.BigRegion
set_option linter.unusedVariables false
set_option linter.unusedSimpArgs false
namespace Go.Proofs.Ytanimonhnngfkaa.Own
open Go.RowKit

theorem aside {p : Prop} (h : p) : Aside p := h
def zeroVals : Array Value := #[.string ⟨#[]⟩, .int .u8 0, .int .i64 0, .int .i64 0, .int .i64 0, .slice none 0 0, .slice none 0 0]
theorem set7 {w : World} {g : Nat} {a0 a1 a2 a3 a4 a5 a6 : Value} {t : TypeId} {fr : Nat × Nat} (h : w.heap[g]? = some (.cells #[a0, a1, a2, a3, a4, a5, a6] t fr)) (x0 x1 x2 x3 x4 x5 x6 : Value) :
    (((((((w.setCell ⟨g, 0, none⟩ x0).setCell ⟨g, 1, none⟩ x1).setCell ⟨g, 2, none⟩ x2).setCell ⟨g, 3, none⟩ x3).setCell ⟨g, 4, none⟩ x4).setCell ⟨g, 5, none⟩ x5).setCell ⟨g, 6, none⟩ x6).heap[g]? = some (.cells #[x0, x1, x2, x3, x4, x5, x6] t fr) := by
  rw [setCell_heap (setCell_heap (setCell_heap (setCell_heap (setCell_heap (setCell_heap (setCell_heap h 0 x0) 1 x1) 2 x2) 3 x3) 4 x4) 5 x5) 6 x6]
  rfl
/-- The world at Count's call of cell. -/
theorem count_four (w : World) (vals : Array Value) (x : Num) (W : World) (hW : W = (((w.alloc (.cells vals 38)).alloc (.cells #[.int .i64 x.W, .int .u64 x.Hi, .int .u64 x.Lo] 45)).alloc (.cells zeroVals 38)).alloc (.cells vals 63)) :
    W.heap[w.heap.size + 1 + 1 + 1]? = some (.cells vals 63 (0, 0)) ∧ W.heap[w.heap.size + 1 + 1]? = some (.cells zeroVals 38 (0, 0)) ∧ Below w.heap.size w W ∧ W.heap.size = w.heap.size + 4 := by
  subst hW
  have s1 := sizeLit w (.cells vals 38)
  have s2 := sizeLit (w.alloc (.cells vals 38)) (.cells #[.int .i64 x.W, .int .u64 x.Hi, .int .u64 x.Lo] 45)
  have s3 := sizeLit ((w.alloc (.cells vals 38)).alloc (.cells #[.int .i64 x.W, .int .u64 x.Hi, .int .u64 x.Lo] 45)) (.cells zeroVals 38)
  have s4 := sizeLit (((w.alloc (.cells vals 38)).alloc (.cells #[.int .i64 x.W, .int .u64 x.Hi, .int .u64 x.Lo] 45)).alloc (.cells zeroVals 38)) (.cells vals 63)
  exact ⟨heapLit _ _ _ _ (by omega), heapOld _ _ _ _ (heapLit _ _ _ _ (by omega)), ((((Below.refl _ _).alloc (Nat.le_refl _) _).alloc (by omega) _).alloc (by omega) _).alloc (by omega) _, by omega⟩

set_option maxRecDepth 100000 in
set_option maxHeartbeats 800000 in
theorem Count_out (a : Arr) (ho : a.ok) (hkd : a.kd = 4) (A : Option Addr) (n c : Nat) (B : Option Addr) (m d k : Nat) (hBd : B = none → d = 0) (x : Num) (hxw : x.wf) (hxo : x.ok) (hx0 : x.Hi = 0) (hxk : x.Lo = (k : Int)) (hk : n ≤ k) (hkb : k ≤ 18446744073709551615) (w : World) (hR : ReadsNums w A n a.cs) (hS : Reads w .i64 B m a.ls) :
    Calls Try.prog 10 #[.agg (a.vals A n c B m d), x.v] w fun e w' => e = .returned (.tuple #[.agg zeroVals, .int .i64 11]) ∧ Below w.heap.size w w' := by
  obtain ⟨h1, h2, h3, h4⟩ := count_four w (a.vals A n c B m d) x _ rfl
  have hbl : ∀ ad, A = some ad → 0 < n → ad.block < w.heap.size := fun ad e h0 => by
    obtain ⟨b, off, e1, e2, _⟩ := hR.2.2 h0
    rw [e1] at e; cases e; exact e2
  have hbl2 := hS.block_lt
  have HC := aside (cell_out a ho A n c B m d (w.heap.size + 1 + 1 + 1) k hBd x hxw hxo hx0 hxk hk hkb _ (hR.below h3) (hS.below h3) h1 (fun ad e h0 => by have := hbl ad e h0; omega) (fun ad e h0 => by have := hbl2 ad e h0; omega))
  have H2 := aside h2
  have H3 := aside h3
  have H4 := aside h4
  obtain ⟨xW, xh, xl⟩ := x
  obtain ⟨nm, kd, aW, aR, aB, cs, ls⟩ := a
  simp only [Num.v, Arr.vals, zeroVals] at *
  subst hx0 hxk hkd
  clear hR hS ho hxw hxo hbl hbl2 h1 h2 h3 h4
  go_enter Try.func10, Try.ntmps10
  go_wp2_with fail
  refine Calls.mono HC.out ?_
  rintro e w1 ⟨rfl, hb1⟩
  have hz := (hb1.block _ (Array.getElem?_eq_some_iff.1 H2.out).1).trans H2.out
  have z0 := cellOf hz 0
  have z1 := cellOf hz 1
  have z2 := cellOf hz 2
  have z3 := cellOf hz 3
  have z4 := cellOf hz 4
  have z5 := cellOf hz 5
  have z6 := cellOf hz 6
  have fz := frozenOf hz
  have hle : w.heap.size ≤ w.heap.size + 1 + 1 := by omega
  go_wp2_with fail
  refine bodyPost_ret (results_row_tmp rfl _ _ (w.heap.size + 1 + 1) 38 _ (0, 0) _ rfl (set7 hz _ _ _ _ _ _ _) Try.underlying38 rfl (by kernel_rfl)) rfl ⟨rfl, ?_⟩
  have hb := H3.out.trans (hb1.mono H3.out.size)
  exact ((((((hb.setCell (p := ⟨_, 0, none⟩) hle _).setCell (p := ⟨_, 1, none⟩) hle _).setCell (p := ⟨_, 2, none⟩) hle _).setCell (p := ⟨_, 3, none⟩) hle _).setCell (p := ⟨_, 4, none⟩) hle _).setCell (p := ⟨_, 5, none⟩) hle _).setCell (p := ⟨_, 6, none⟩) hle _
theorem numsV_set2 (l : List Num) : ∀ k, k < l.length → ∀ lo, (numsV l).set (k * 3 + 2) (.int .u64 lo) = numsV (l.set k ⟨(l.getD k zeroNum).W, (l.getD k zeroNum).Hi, lo⟩) := by
  induction l with
  | nil => intro k hk; simp at hk
  | cons x l ih =>
    intro k hk lo
    have e : ∀ (x : Num) (l : List Num), numsV (x :: l) = .int .i64 x.W :: .int .u64 x.Hi :: .int .u64 x.Lo :: numsV l := fun x l => by unfold numsV; rw [List.flatMap_cons]; rfl
    cases k with
    | zero => rw [e, List.set_cons_zero, e]; rfl
    | succ k =>
      rw [List.set_cons_succ, e, e, show (k + 1) * 3 + 2 = k * 3 + 2 + 1 + 1 + 1 by omega, List.set_cons_succ, List.set_cons_succ, List.set_cons_succ, ih k (by simpa using hk) lo, List.getD_cons_succ]
theorem cell_four (a : Arr) (ho : a.ok) (A : Option Addr) (n c : Nat) (B : Option Addr) (m d k : Nat) (hBd : B = none → d = 0) (x : Num) (hxw : x.wf) (hxo : x.ok) (hx0 : x.Hi = 0) (hxk : x.Lo = (k : Int)) (hk : k < n) (w : World) (hR : ReadsNums w A n a.cs) (hS : Reads w .i64 B m a.ls)
    (W : World) (hW : W = (((w.alloc (.cells (a.vals A n c B m d) 38)).alloc (.cells #[.int .i64 x.W, .int .u64 x.Hi, .int .u64 x.Lo] 45)).alloc (.cells zeroVals 38)).alloc (.cells (a.vals A n c B m d) 63)) :
    Calls Try.prog 21 #[.pointer (some ⟨w.heap.size + 1 + 1 + 1, 0, none⟩), .int .u8 a.kd, x.v] W fun e w1 => ∃ g B', e = .returned (.tuple #[.pointer (some ⟨g, k * 3, none⟩), .int .i64 (k : Int), .int .i64 0]) ∧
      w.heap.size + 4 ≤ g ∧ w1.heap[g]? = some (.cells (numsV a.cs).toArray 45 (0, 0)) ∧ w1.heap[w.heap.size + 1 + 1 + 1]? = some (.cells (a.vals (some ⟨g, 0, none⟩) n n B' m m) 63 (0, 0)) ∧ w1.heap[w.heap.size + 1 + 1]? = some (.cells zeroVals 38 (0, 0)) ∧ Reads w1 .i64 B' m a.ls ∧ (B' = none ∨ ∃ b, B' = some ⟨b, 0, none⟩ ∧ g < b) ∧ Below w.heap.size w w1 := by
  obtain ⟨h1, h2, h3, h4⟩ := count_four w (a.vals A n c B m d) x W hW
  have hbl : ∀ ad, A = some ad → 0 < n → ad.block < w.heap.size := fun ad e h0 => by
    obtain ⟨b, off, e1, e2, _⟩ := hR.2.2 h0
    rw [e1] at e; cases e; exact e2
  have hbl2 := hS.block_lt
  refine Calls.mono (cell_in a ho A n c B m d (w.heap.size + 1 + 1 + 1) k hBd x hxw hxo hx0 hxk hk W (hR.below h3) (hS.below h3) h1 (fun ad e h0 => by have := hbl ad e h0; omega) (fun ad e h0 => by have := hbl2 ad e h0; omega)) ?_
  rintro e w1 ⟨g, B', rfl, hg0, hg1, hp1, hR1, hB1, hF1⟩
  exact ⟨g, B', rfl, by omega, hg1, hp1, hF1.blk h2 (by omega), hR1, hB1, h3.trans (hF1.below (fun i hi => by omega) (by omega))⟩

set_option maxRecDepth 100000 in
set_option maxHeartbeats 800000 in
theorem Count_in (a : Arr) (ho : a.ok) (hkd : a.kd = 4) (A : Option Addr) (n c : Nat) (B : Option Addr) (m d k : Nat) (hBd : B = none → d = 0) (x'W x'H x'L : Int) (hxx : a.cs.getD k zeroNum = ⟨x'W, x'H, x'L⟩) (x : Num) (hxw : x.wf) (hxo : x.ok) (hx0 : x.Hi = 0) (hxk : x.Lo = (k : Int)) (hk : k < n) (w : World) (hR : ReadsNums w A n a.cs) (hS : Reads w .i64 B m a.ls) :
    Calls Try.prog 10 #[.agg (a.vals A n c B m d), x.v] w fun e w' => ∃ g B', e = .returned (.tuple #[.agg ({ a with cs := a.cs.set k ⟨x'W, x'H, IntKind.u64.wrap (x'L + 1)⟩ }.vals (some ⟨g, 0, none⟩) n n B' m m), .int .i64 0]) ∧ w.heap.size ≤ g ∧ w'.heap[g]? = some (.cells (numsV (a.cs.set k ⟨x'W, x'H, IntKind.u64.wrap (x'L + 1)⟩)).toArray 45 (0, 0)) ∧ Reads w' .i64 B' m a.ls ∧ (B' = none ∨ ∃ b, B' = some ⟨b, 0, none⟩ ∧ g < b) ∧ Below w.heap.size w w' := by
  have HC := aside (cell_four a ho A n c B m d k hBd x hxw hxo hx0 hxk hk w hR hS _ rfl)
  have hkl : k < a.cs.length := by rw [hR.1]; exact hk
  have HSET := aside (numsV_set2 a.cs k hkl (IntKind.u64.wrap (x'L + 1)))
  have HGET := aside (numsV_get a.cs k hkl)
  rw [hxx] at HSET HGET
  obtain ⟨xW, xh, xl⟩ := x
  obtain ⟨nm, kd, aW, aR, aB, cs, ls⟩ := a
  simp only [Num.v, Arr.vals, zeroVals] at *
  subst hx0 hxk hkd
  clear hR hS ho hxw hxo hxx hkl
  go_enter Try.func10, Try.ntmps10
  go_wp2_with fail
  refine Calls.mono HC.out ?_
  rintro e w1 ⟨g, B', rfl, hg0, hg1, hp1, hz, hR1, hB1, hb1⟩
  have q0 := cellOf hp1 0
  have q1 := cellOf hp1 1
  have q2 := cellOf hp1 2
  have q3 := cellOf hp1 3
  have q4 := cellOf hp1 4
  have q5 := cellOf hp1 5
  have q6 := cellOf hp1 6
  have z0 := cellOf hz 0
  have z1 := cellOf hz 1
  have z2 := cellOf hz 2
  have z3 := cellOf hz 3
  have z4 := cellOf hz 4
  have z5 := cellOf hz 5
  have z6 := cellOf hz 6
  have fz := frozenOf hz
  have fg := frozenOf hg1
  have g2 : w1.cell? ⟨g, k * 3 + 2, none⟩ = some (.int .u64 x'L) := (cellOf hg1 _).trans (by rw [List.getElem?_toArray]; exact HGET.out.2.2)
  have hn1 : ¬ g = w.heap.size + 1 + 1 + 1 := by omega
  have hn2 : ¬ g = w.heap.size + 1 + 1 := by omega
  have hn3 : ¬ w.heap.size + 1 + 1 + 1 = g := by omega
  have hn4 : ¬ w.heap.size + 1 + 1 = g := by omega
  simp only [List.getElem?_toArray, List.getElem?_cons_zero, List.getElem?_cons_succ] at q0 q1 q2 q3 q4 q5 q6 z0 z1 z2 z3 z4 z5 z6
  have HG1 := aside hg1
  have HP1 := aside hp1
  have HZ := aside hz
  clear hg1 hp1 hz
  go_wp2_with fail
  have hX := setOther HZ.out (p := ⟨g, k * 3 + 2, none⟩) (v := .int .u64 (IntKind.u64.wrap (x'L + 1))) hn2
  have hG := setCell_heap HG1.out (k * 3 + 2) (.int .u64 (IntKind.u64.wrap (x'L + 1)))
  rw [List.setIfInBounds_toArray, HSET.out] at hG
  have hle : w.heap.size ≤ w.heap.size + 1 + 1 := by omega
  have hle2 : w.heap.size ≤ g := by omega
  refine bodyPost_ret (results_row_tmp rfl _ _ (w.heap.size + 1 + 1) 38 _ (0, 0) _ rfl (set7 hX _ _ _ _ _ _ _) Try.underlying38 rfl (by kernel_rfl)) rfl ⟨g, B', rfl, hle2, ?_, ?_, hB1, ?_⟩
  · exact setOther (setOther (setOther (setOther (setOther (setOther (setOther hG hn4) hn4) hn4) hn4) hn4) hn4) hn4
  · refine hR1.foot (F := fun i => i = g ∨ i = w.heap.size + 1 + 1) (((((((((Foot.refl (fun i => i = g ∨ i = w.heap.size + 1 + 1) w1).setCell (p := ⟨g, k * 3 + 2, none⟩) (.inl (.inl rfl)) (.int .u64 (IntKind.u64.wrap (x'L + 1)))).setCell (p := ⟨w.heap.size + 1 + 1, 0, none⟩) (.inl (.inr rfl)) _).setCell (p := ⟨w.heap.size + 1 + 1, 1, none⟩) (.inl (.inr rfl)) _).setCell (p := ⟨w.heap.size + 1 + 1, 2, none⟩) (.inl (.inr rfl)) _).setCell (p := ⟨w.heap.size + 1 + 1, 3, none⟩) (.inl (.inr rfl)) _).setCell (p := ⟨w.heap.size + 1 + 1, 4, none⟩) (.inl (.inr rfl)) _).setCell (p := ⟨w.heap.size + 1 + 1, 5, none⟩) (.inl (.inr rfl)) _).setCell (p := ⟨w.heap.size + 1 + 1, 6, none⟩) (.inl (.inr rfl)) _) fun ad e h0 => ?_
    rcases hB1 with h | ⟨b, h, h5⟩
    · rw [h] at e; cases e
    · rw [h] at e; cases e; show ¬ (b = g ∨ b = w.heap.size + 1 + 1); omega
  · exact (((((((hb1.setCell (p := ⟨g, k * 3 + 2, none⟩) hle2 _).setCell (p := ⟨_, 0, none⟩) hle _).setCell (p := ⟨_, 1, none⟩) hle _).setCell (p := ⟨_, 2, none⟩) hle _).setCell (p := ⟨_, 3, none⟩) hle _).setCell (p := ⟨_, 4, none⟩) hle _).setCell (p := ⟨_, 5, none⟩) hle _).setCell (p := ⟨_, 6, none⟩) hle _
end Go.Proofs.Ytanimonhnngfkaa.Own

/- cells.Count where it refuses; cells.Read; cells.Write. -/
set_option linter.unusedVariables false
set_option linter.unusedSimpArgs false
namespace Go.Proofs.Ytanimonhnngfkaa.Own
open Go.RowKit

/-- The world at the call of cell: three boxes, and the array. -/
theorem box_four (w : World) (c1 c2 c3 c4 : Array Value) (t1 t2 t3 t4 : TypeId) (W : World) (hW : W = (((w.alloc (.cells c1 t1)).alloc (.cells c2 t2)).alloc (.cells c3 t3)).alloc (.cells c4 t4)) :
    W.heap[w.heap.size + 1 + 1 + 1]? = some (.cells c4 t4 (0, 0)) ∧ W.heap[w.heap.size + 1 + 1]? = some (.cells c3 t3 (0, 0)) ∧ W.heap[w.heap.size + 1]? = some (.cells c2 t2 (0, 0)) ∧ W.heap[w.heap.size]? = some (.cells c1 t1 (0, 0)) ∧ Below w.heap.size w W ∧ W.heap.size = w.heap.size + 4 := by
  subst hW
  have s1 := sizeLit w (.cells c1 t1)
  have s2 := sizeLit (w.alloc (.cells c1 t1)) (.cells c2 t2)
  have s3 := sizeLit ((w.alloc (.cells c1 t1)).alloc (.cells c2 t2)) (.cells c3 t3)
  have s4 := sizeLit (((w.alloc (.cells c1 t1)).alloc (.cells c2 t2)).alloc (.cells c3 t3)) (.cells c4 t4)
  exact ⟨heapLit _ _ _ _ (by omega), heapOld _ _ _ _ (heapLit _ _ _ _ (by omega)), heapOld _ _ _ _ (heapOld _ _ _ _ (heapLit _ _ _ _ (by omega))), heapOld _ _ _ _ (heapOld _ _ _ _ (heapOld _ _ _ _ (heapLit _ _ _ _ (by omega)))), ((((Below.refl _ _).alloc (Nat.le_refl _) _).alloc (by omega) _).alloc (by omega) _).alloc (by omega) _, by omega⟩
theorem box_five (w : World) (c1 c2 c3 c4 c5 : Array Value) (t1 t2 t3 t4 t5 : TypeId) (W : World) (hW : W = ((((w.alloc (.cells c1 t1)).alloc (.cells c2 t2)).alloc (.cells c3 t3)).alloc (.cells c4 t4)).alloc (.cells c5 t5)) :
    W.heap[w.heap.size + 1 + 1 + 1 + 1]? = some (.cells c5 t5 (0, 0)) ∧ W.heap[w.heap.size + 1 + 1 + 1]? = some (.cells c4 t4 (0, 0)) ∧ W.heap[w.heap.size + 1 + 1]? = some (.cells c3 t3 (0, 0)) ∧ W.heap[w.heap.size]? = some (.cells c1 t1 (0, 0)) ∧ Below w.heap.size w W ∧ W.heap.size = w.heap.size + 5 := by
  subst hW
  obtain ⟨h1, h2, h3, h4, h5, h6⟩ := box_four w c1 c2 c3 c4 t1 t2 t3 t4 _ rfl
  have s5 := sizeLit ((((w.alloc (.cells c1 t1)).alloc (.cells c2 t2)).alloc (.cells c3 t3)).alloc (.cells c4 t4)) (.cells c5 t5)
  exact ⟨heapLit _ _ _ _ (by omega), heapOld _ _ _ _ h1, heapOld _ _ _ _ h2, heapOld _ _ _ _ h4, h5.alloc (by omega) _, by omega⟩
theorem nums_lt {w : World} {A : Option Addr} {n : Nat} {cs : List Num} (hR : ReadsNums w A n cs) : ∀ ad, A = some ad → 0 < n → ad.block < w.heap.size := fun ad e h0 => by
  obtain ⟨b, off, e1, e2, _⟩ := hR.2.2 h0
  rw [e1] at e; cases e; exact e2
/-- cell at a box that is new. -/
theorem cell_err' (a : Arr) (hw : a.wf) (A : Option Addr) (n c : Nat) (B : Option Addr) (m d p : Nat) (hBd : B = none → d = 0) (kk : Int) (x : Num) (hxw : x.wf) (w W : World) (hb : Below w.heap.size w W) (hR : ReadsNums w A n a.cs) (hS : Reads w .i64 B m a.ls) (hp : W.heap[p]? = some (.cells (a.vals A n c B m d) 63 (0, 0))) (hpl : w.heap.size ≤ p) (er : Int) (he : a.cellE kk x = er) (he0 : ¬ er = 0) :
    Calls Try.prog 21 #[.pointer (some ⟨p, 0, none⟩), .int .u8 kk, x.v] W fun e w' => e = .returned (.tuple #[.pointer none, .int .i64 0, .int .i64 er]) ∧ Below W.heap.size W w' :=
  cell_err a hw A n c B m d p hBd kk x hxw W (hR.below hb) (hS.below hb) hp (fun ad e h0 => by have := nums_lt hR ad e h0; omega) (fun ad e h0 => by have := hS.block_lt ad e h0; omega) er he he0
theorem cell_in' (a : Arr) (ho : a.ok) (A : Option Addr) (n c : Nat) (B : Option Addr) (m d p k : Nat) (hBd : B = none → d = 0) (x : Num) (hxw : x.wf) (hxo : x.ok) (hx0 : x.Hi = 0) (hxk : x.Lo = (k : Int)) (hk : k < n) (w W : World) (hb : Below w.heap.size w W) (hR : ReadsNums w A n a.cs) (hS : Reads w .i64 B m a.ls) (hp : W.heap[p]? = some (.cells (a.vals A n c B m d) 63 (0, 0))) (hpl : w.heap.size ≤ p) :
    Calls Try.prog 21 #[.pointer (some ⟨p, 0, none⟩), .int .u8 a.kd, x.v] W fun e w' => ∃ g B', e = .returned (.tuple #[.pointer (some ⟨g, k * 3, none⟩), .int .i64 (k : Int), .int .i64 0]) ∧
      W.heap.size ≤ g ∧ w'.heap[g]? = some (.cells (numsV a.cs).toArray 45 (0, 0)) ∧ w'.heap[p]? = some (.cells (a.vals (some ⟨g, 0, none⟩) n n B' m m) 63 (0, 0)) ∧ Reads w' .i64 B' m a.ls ∧ (B' = none ∨ ∃ b, B' = some ⟨b, 0, none⟩ ∧ g < b) ∧ Foot (fun i => i = p) W w' :=
  cell_in a ho A n c B m d p k hBd x hxw hxo hx0 hxk hk W (hR.below hb) (hS.below hb) hp (fun ad e h0 => by have := nums_lt hR ad e h0; omega) (fun ad e h0 => by have := hS.block_lt ad e h0; omega)

set_option maxRecDepth 100000 in
set_option maxHeartbeats 800000 in
theorem Count_err (a : Arr) (hw : a.wf) (A : Option Addr) (n c : Nat) (B : Option Addr) (m d : Nat) (hBd : B = none → d = 0) (x : Num) (hxw : x.wf) (er : Int) (he : a.cellE 4 x = er) (he0 : ¬ er = 0) (w : World) (hR : ReadsNums w A n a.cs) (hS : Reads w .i64 B m a.ls) :
    Calls Try.prog 10 #[.agg (a.vals A n c B m d), x.v] w fun e w' => e = .returned (.tuple #[.agg zeroVals, .int .i64 er]) ∧ Below w.heap.size w w' := by
  obtain ⟨h1, h2, _, _, h3, h4⟩ := box_four w (a.vals A n c B m d) #[.int .i64 x.W, .int .u64 x.Hi, .int .u64 x.Lo] zeroVals (a.vals A n c B m d) 38 45 38 63 _ rfl
  have HC := aside (cell_err' a hw A n c B m d (w.heap.size + 1 + 1 + 1) hBd 4 x hxw w _ h3 hR hS h1 (by omega) er he he0)
  have H2 := aside h2
  have H3 := aside h3
  have H4 := aside h4
  have heb : (er != 0) = true := by simp [he0]
  obtain ⟨xW, xh, xl⟩ := x
  obtain ⟨nm, kd, aW, aR, aB, cs, ls⟩ := a
  simp only [Num.v, Arr.vals, zeroVals] at *
  clear hR hS hw hxw h1 h2 h3 h4 he
  go_enter Try.func10, Try.ntmps10
  go_wp2_with fail
  refine Calls.mono HC.out ?_
  rintro e w1 ⟨rfl, hb1⟩
  have hz := (hb1.block _ (Array.getElem?_eq_some_iff.1 H2.out).1).trans H2.out
  have z0 := cellOf hz 0
  have z1 := cellOf hz 1
  have z2 := cellOf hz 2
  have z3 := cellOf hz 3
  have z4 := cellOf hz 4
  have z5 := cellOf hz 5
  have z6 := cellOf hz 6
  have fz := frozenOf hz
  have hle : w.heap.size ≤ w.heap.size + 1 + 1 := by omega
  go_wp2_with fail
  refine bodyPost_ret (results_row_tmp rfl _ _ (w.heap.size + 1 + 1) 38 _ (0, 0) _ rfl (set7 hz _ _ _ _ _ _ _) Try.underlying38 rfl (by kernel_rfl)) rfl ⟨rfl, ?_⟩
  have hb := H3.out.trans (hb1.mono H3.out.size)
  exact ((((((hb.setCell (p := ⟨_, 0, none⟩) hle _).setCell (p := ⟨_, 1, none⟩) hle _).setCell (p := ⟨_, 2, none⟩) hle _).setCell (p := ⟨_, 3, none⟩) hle _).setCell (p := ⟨_, 4, none⟩) hle _).setCell (p := ⟨_, 5, none⟩) hle _).setCell (p := ⟨_, 6, none⟩) hle _

set_option maxRecDepth 100000 in
set_option maxHeartbeats 800000 in
theorem Read_err (a : Arr) (hw : a.wf) (A : Option Addr) (n c : Nat) (B : Option Addr) (m d : Nat) (hBd : B = none → d = 0) (x : Num) (hxw : x.wf) (er : Int) (he : a.cellE 3 x = er) (he0 : ¬ er = 0) (w : World) (hR : ReadsNums w A n a.cs) (hS : Reads w .i64 B m a.ls) :
    Calls Try.prog 15 #[.agg (a.vals A n c B m d), x.v] w fun e w' => e = .returned (.tuple #[.agg #[.int .i64 0, .int .u64 0, .int .u64 0], .int .i64 er]) ∧ Below w.heap.size w w' := by
  obtain ⟨h1, h2, _, _, h3, h4⟩ := box_four w (a.vals A n c B m d) #[.int .i64 x.W, .int .u64 x.Hi, .int .u64 x.Lo] #[.int .i64 0, .int .u64 0, .int .u64 0] (a.vals A n c B m d) 38 45 45 63 _ rfl
  have HC := aside (cell_err' a hw A n c B m d (w.heap.size + 1 + 1 + 1) hBd 3 x hxw w _ h3 hR hS h1 (by omega) er he he0)
  have H2 := aside h2
  have H3 := aside h3
  have H4 := aside h4
  have heb : (er != 0) = true := by simp [he0]
  obtain ⟨xW, xh, xl⟩ := x
  obtain ⟨nm, kd, aW, aR, aB, cs, ls⟩ := a
  simp only [Num.v, Arr.vals] at *
  clear hR hS hw hxw h1 h2 h3 h4 he
  go_enter Try.func15, Try.ntmps15
  go_wp2_with fail
  refine Calls.mono HC.out ?_
  rintro e w1 ⟨rfl, hb1⟩
  have hz := (hb1.block _ (Array.getElem?_eq_some_iff.1 H2.out).1).trans H2.out
  have z0 := cellOf hz 0
  have z1 := cellOf hz 1
  have z2 := cellOf hz 2
  have fz := frozenOf hz
  have hle : w.heap.size ≤ w.heap.size + 1 + 1 := by omega
  go_wp2_with fail
  refine bodyPost_ret (results_row_tmp rfl _ _ (w.heap.size + 1 + 1) 45 _ (0, 0) _ rfl (set3 hz _ _ _) Try.underlying45 rfl (by kernel_rfl)) rfl ⟨rfl, ?_⟩
  have hb := H3.out.trans (hb1.mono H3.out.size)
  exact ((hb.setCell (p := ⟨_, 0, none⟩) hle _).setCell (p := ⟨_, 1, none⟩) hle _).setCell (p := ⟨_, 2, none⟩) hle _
set_option maxRecDepth 100000 in
set_option maxHeartbeats 800000 in
theorem Read_in (a : Arr) (ho : a.ok) (hkd : a.kd = 3) (A : Option Addr) (n c : Nat) (B : Option Addr) (m d k : Nat) (hBd : B = none → d = 0) (x'W x'H x'L : Int) (hxx : a.cs.getD k zeroNum = ⟨x'W, x'H, x'L⟩) (x : Num) (hxw : x.wf) (hxo : x.ok) (hx0 : x.Hi = 0) (hxk : x.Lo = (k : Int)) (hk : k < n) (w : World) (hR : ReadsNums w A n a.cs) (hS : Reads w .i64 B m a.ls) :
    Calls Try.prog 15 #[.agg (a.vals A n c B m d), x.v] w fun e w' => e = .returned (.tuple #[.agg #[.int .i64 x'W, .int .u64 x'H, .int .u64 x'L], .int .i64 0]) ∧ Below w.heap.size w w' := by
  obtain ⟨h1, h2, _, _, h3, h4⟩ := box_four w (a.vals A n c B m d) #[.int .i64 x.W, .int .u64 x.Hi, .int .u64 x.Lo] #[.int .i64 0, .int .u64 0, .int .u64 0] (a.vals A n c B m d) 38 45 45 63 _ rfl
  have HC := aside (cell_in' a ho A n c B m d (w.heap.size + 1 + 1 + 1) k hBd x hxw hxo hx0 hxk hk w _ h3 hR hS h1 (by omega))
  have hkl : k < a.cs.length := by rw [hR.1]; exact hk
  have HGET := aside (numsV_get a.cs k hkl)
  rw [hxx] at HGET
  have H2 := aside h2
  have H3 := aside h3
  have H4 := aside h4
  obtain ⟨xW, xh, xl⟩ := x
  obtain ⟨nm, kd, aW, aR, aB, cs, ls⟩ := a
  simp only [Num.v, Arr.vals] at *
  subst hx0 hxk hkd
  clear hR hS ho hxw hxo h1 h2 h3 h4 hxx hkl
  go_enter Try.func15, Try.ntmps15
  go_wp2_with fail
  refine Calls.mono HC.out ?_
  rintro e w1 ⟨g, B', rfl, hg0, hg1, hp1, hR1, hB1, hF1⟩
  have hz := hF1.blk H2.out (by omega)
  have z0 := cellOf hz 0
  have z1 := cellOf hz 1
  have z2 := cellOf hz 2
  have fz := frozenOf hz
  have g0 : w1.cell? ⟨g, k * 3, none⟩ = some (.int .i64 x'W) := (cellOf hg1 _).trans (by rw [List.getElem?_toArray]; exact HGET.out.1)
  have g1 : w1.cell? ⟨g, k * 3 + 1, none⟩ = some (.int .u64 x'H) := (cellOf hg1 _).trans (by rw [List.getElem?_toArray]; exact HGET.out.2.1)
  have g2 : w1.cell? ⟨g, k * 3 + 2, none⟩ = some (.int .u64 x'L) := (cellOf hg1 _).trans (by rw [List.getElem?_toArray]; exact HGET.out.2.2)
  have hle : w.heap.size ≤ w.heap.size + 1 + 1 := by omega
  have hn1 : ¬ g = w.heap.size + 1 + 1 := by have := H4.out; omega
  have hn2 : ¬ w.heap.size + 1 + 1 = g := by have := H4.out; omega
  have hb := aside (H3.out.trans (hF1.below (fun i hi => by omega) H3.out.size))
  have HZ := aside hz
  clear hg1 hp1 hR1 hB1 hF1 hz HC H2
  go_wp2_with fail
  refine bodyPost_ret (results_row_tmp rfl _ _ (w.heap.size + 1 + 1) 45 _ (0, 0) _ rfl (set3 HZ.out _ _ _) Try.underlying45 rfl (by kernel_rfl)) rfl ⟨rfl, ?_⟩
  exact ((hb.out.setCell (p := ⟨_, 0, none⟩) hle _).setCell (p := ⟨_, 1, none⟩) hle _).setCell (p := ⟨_, 2, none⟩) hle _
end Go.Proofs.Ytanimonhnngfkaa.Own

/- cell, with what the copy of the ticks is. -/
set_option linter.unusedVariables false
set_option linter.unusedSimpArgs false
namespace Go.Proofs.Ytanimonhnngfkaa.Own
open Go.RowKit

theorem own_weak {w : World} {base base' n : Nat} {e : TypeId} {size : Nat} {v : Value} {xs : List Value} (h : w.ownsRow base e size v n xs) (hb : base' ≤ base) : w.ownsRow base' e size v n xs := by
  refine ⟨h.1, h.2.imp id ?_⟩
  rintro ⟨g, cap, cur, h1, h2, r⟩
  exact ⟨g, cap, cur, h1, Nat.le_trans hb h2, r⟩
theorem own_drewN {w : World} {base n : Nat} {e : TypeId} {size : Nat} {v : Value} {xs : List Value} (h : w.ownsRow base e size v n xs) (q : Nat) : (w.drewN q).ownsRow base e size v n xs := h
set_option maxRecDepth 100000 in
theorem Clip_own (v : Value) (m base : Nat) (ls : List Int) (w : World) (hO : w.ownsRow base 3 1 v m (nums .i64 ls)) (hm : m ≤ 4096) :
    Calls Try.prog 37 #[v] w fun e w' => ∃ B c, e = .returned (.slice B m m) ∧ v = .slice B m c ∧ w' = w := by
  obtain ⟨A, L, c, rfl, hL⟩ := own_form hO
  obtain rfl : L = m := hL
  have hnc : L ≤ c ∧ (A = none ∨ ∃ b, A = some ⟨b, 0, none⟩ ∧ base ≤ b) ∧ c ≤ 9223372036854775807 := by
    rcases hO.2 with ⟨h1, h2⟩ | ⟨g, cap, cur, h1, h2, h3, h4, h5, _⟩
    · cases h1; exact ⟨Nat.le_refl _, .inl rfl, by omega⟩
    · cases h1; exact ⟨h4, .inr ⟨g, rfl, h2⟩, by simpa [maxLen] using h5⟩
  obtain ⟨n1, n2, n3⟩ := hnc
  have hL0 : (0 : Int) ≤ (L : Int) := by omega
  have hLc : (L : Int) ≤ (c : Int) := by omega
  have HN2 : Aside _ := n2
  clear hO n2
  have hsl : ∀ W : World, (Instr.slice 36 (.slice A L c) none (some (.int .i64 (L : Int))) (some (.int .i64 (L : Int)))).run Try.prog W = .ok (.slice A L L) W := by
    intro W
    rw [run_slice_hm (P := Try.prog) W 36 A L c (by kernel_rfl) .i64 .i64 (L : Int) (L : Int) (by omega) (by omega) (by omega)]
    have hsz : (sizeOf (Try.prog.elem 36)).run Try.prog W = .ok 1 W := by kernel_rfl
    rw [hsz]
    rcases HN2.out with rfl | ⟨b, rfl, _⟩
    · simp [sliced, Result.andThen]
    · simp [sliced, Result.andThen, add_plain]
  go_enter Try.func37, Try.ntmps37
  go_wp2_with fail
  go_ret
  exact ⟨A, c, rfl, rfl, rfl⟩
set_option maxRecDepth 100000 in
set_option maxHeartbeats 4000000 in
theorem cell_own (a : Arr) (ho : a.ok) (A : Option Addr) (n c : Nat) (B : Option Addr) (m d p k : Nat) (hBd : B = none → d = 0) (x : Num) (hxw : x.wf) (hxo : x.ok) (hx0 : x.Hi = 0) (hxk : x.Lo = (k : Int)) (hk : k < n) (w : World) (hR : ReadsNums w A n a.cs) (hS : Reads w .i64 B m a.ls) (hp : w.heap[p]? = some (.cells (a.vals A n c B m d) 63 (0, 0)))
    (hAp : ∀ ad, A = some ad → 0 < n → ad.block ≠ p) (hBp : ∀ ad, B = some ad → 0 < m → ad.block ≠ p) :
    Calls Try.prog 21 #[.pointer (some ⟨p, 0, none⟩), .int .u8 a.kd, x.v] w fun e w' => ∃ g B', e = .returned (.tuple #[.pointer (some ⟨g, k * 3, none⟩), .int .i64 (k : Int), .int .i64 0]) ∧
      w.heap.size ≤ g ∧ w'.heap[g]? = some (.cells (numsV a.cs).toArray 45 (0, 0)) ∧ w'.heap[p]? = some (.cells (a.vals (some ⟨g, 0, none⟩) n n B' m m) 63 (0, 0)) ∧ (∃ c', w'.ownsRow (g + 1) 3 1 (.slice B' m c') m (nums .i64 a.ls)) ∧ Foot (fun i => i = p) w w' := by
  have hplt := (Array.getElem?_eq_some_iff.1 hp).1
  have hB1 : Below w.heap.size w (w.alloc (.cells #[.int .i64 x.W, .int .u64 x.Hi, .int .u64 x.Lo] 45)) := (Below.refl _ _).alloc (Nat.le_refl _) _
  have hC : CL w w.heap.size p x (a.vals A n c B m d) (w.alloc (.cells #[.int .i64 x.W, .int .u64 x.Hi, .int .u64 x.Lo] 45)) := ⟨heap_alloc_new _ _, heapOld _ _ _ _ hp, hB1⟩
  have HMAY : Aside (∀ V, CL w w.heap.size p x (a.vals A n c B m d) V → Calls Try.prog 20 #[.pointer (some ⟨p, 0, none⟩)] V fun e w' => e = .returned (.bool true) ∧ Below V.heap.size V w') :=
    fun V hV => may_ok a ho A n c B m d p V (hR.below hV.below) (hS.below hV.below) hV.hp
  have HCHK : Aside (∀ V, Calls Try.prog 27 #[x.v] V fun e w' => e = .returned (.bool true) ∧ Below V.heap.size V w') := fun V => check_good x hxw hxo V
  have HRS : Aside (∀ V, CL w w.heap.size p x (a.vals A n c B m d) V → ReadsNums V A n a.cs ∧ Reads V .i64 B m a.ls) := fun V hV => ⟨hR.below hV.below, hS.below hV.below⟩
  have hnl : a.cs.length = n := hR.1
  have hl := ho.len
  rw [hnl] at hl
  have hml : m ≤ 4096 := by
    have h1 := ho.scal
    have h2 : a.ls.length = m := hS.1
    rcases ho.kd with k | k | k
    · rw [(h1.1 (by omega)).2.2] at h2; simp at h2; omega
    · rw [(h1.1 (by omega)).2.2] at h2; simp at h2; omega
    · have := (h1.2.2.2 k).2.2.2.2; omega
  have HCL : Aside (∀ (V : World), CL w w.heap.size p x (a.vals A n c B m d) V → (V.cell? ⟨w.heap.size, 0, none⟩ = some (.int .i64 x.W) ∧ V.cell? ⟨w.heap.size, 1, none⟩ = some (.int .u64 x.Hi) ∧ V.cell? ⟨w.heap.size, 2, none⟩ = some (.int .u64 x.Lo)) ∧ (V.cell? ⟨p, 1, none⟩ = some (.int .u8 a.kd) ∧ V.cell? ⟨p, 5, none⟩ = some (.slice A n c) ∧ V.cell? ⟨p, 6, none⟩ = some (.slice B m d))) :=
    fun V h => ⟨⟨cellOf h.hx 0, cellOf h.hx 1, cellOf h.hx 2⟩, cellOf h.hp 1, cellOf h.hp 5, cellOf h.hp 6⟩
  obtain ⟨⟨k0, k1, k2⟩, k3, k5, k6⟩ := HCL.out _ hC
  obtain ⟨xW, xh, xl⟩ := x
  simp only at hx0 hxk k0 k1 k2
  subst hx0 hxk
  have HC : Aside _ := hC
  have HAP : Aside _ := hAp
  have HBP : Aside _ := hBp
  unfold Num.v at *
  have hwr : IntKind.u64.wrap (n : Int) = (n : Int) := by rw [IntKind.wrap_u64]; omega
  have hwi : IntKind.i64.wrap (k : Int) = (k : Int) := by rw [IntKind.wrap_i64]; omega
  have hkd : decide (n ≤ k) = false := decide_eq_false (by omega)
  have hmk := makeNums n (by omega)
  clear hC hB1 hxw hxo hR hS hp hAp hBp
  go_enter Try.func21, Try.ntmps21
  go_wp2_with fail
  refine Calls.mono (HMAY.out _ HC.out) ?_
  rintro e w1 ⟨rfl, hb1⟩
  have hC1 := HC.out.next hb1
  clear k0 k1 k2 k3 k5 k6
  obtain ⟨⟨k0, k1, k2⟩, k3, k5, k6⟩ := HCL.out _ hC1
  go_wp2_with fail
  refine Calls.mono (HCHK.out _) ?_
  rintro e w2 ⟨rfl, hb2⟩
  have hC2 := hC1.next hb2
  clear k0 k1 k2 k3 k5 k6
  obtain ⟨⟨k0, k1, k2⟩, k3, k5, k6⟩ := HCL.out _ hC2
  go_wp2_with fail
  go_quiet (fail)
  have hC3 := hC2.next (below_drewN (Below.refl _ _) nq)
  generalize w2.drewN nq = V at *
  clear k0 k1 k2 k3 k5 k6 hC1 hC2 hb1 hb2 HMAY HCHK HC
  obtain ⟨⟨k0, k1, k2⟩, k3, k5, k6⟩ := HCL.out _ hC3
  obtain ⟨hRn, hSn⟩ := HRS.out _ hC3
  obtain ⟨b, off, hA, hsrc⟩ := nums_src hRn (by omega)
  subst hA
  have hbV : Below V.heap.size V (V.alloc (.cells (madeCells #[.int .i64 0, .int .u64 0, .int .u64 0] (n * 3)) 45)) := (Below.refl _ _).alloc (Nat.le_refl _) _
  have hV0 : (V.alloc (.cells (madeCells #[.int .i64 0, .int .u64 0, .int .u64 0] (n * 3)) 45)).heap[V.heap.size]? = some (.cells (numsV (List.replicate n zeroNum)).toArray 45 (0, 0)) := by
    rw [heap_alloc_new]
    have e : madeCells #[.int .i64 0, .int .u64 0, .int .u64 0] (n * 3) = (numsV (List.replicate n zeroNum)).toArray := by
      rw [← Array.toList_inj, madeNums]
    rw [e]
  have k5a := (hbV.cell (p := ⟨p, 5, none⟩) (Array.getElem?_eq_some_iff.1 hC3.hp).1).trans k5
  obtain ⟨W1, hrun, hg1, hB1⟩ := copy_nums (V.alloc (.cells (madeCells #[.int .i64 0, .int .u64 0, .int .u64 0] (n * 3)) 45)) V.heap.size V 30 30 3 n V.heap.size 0 n n ⟨b, off, none⟩ n c (List.replicate n zeroNum) a.cs Try.underlying30 hV0 (by show n = min n n; omega) hnl (fun j v hv => (hbV.cell (p := (⟨b, off, none⟩ : Addr).add j) (by
    rw [add_block]
    obtain ⟨b', off', e1, e2, _⟩ := hRn.2.2 (by omega)
    cases e1; exact e2)).trans (hsrc j v hv)) (by simp) hbV (Nat.le_refl _)
  have hg1' : W1.heap[V.heap.size]? = some (.cells (numsV a.cs).toArray 45 (0, 0)) := by
    rw [hg1]
    have e : (numsV (List.replicate n zeroNum)).drop (0 + (numsV a.cs).length) = [] := List.drop_eq_nil_of_le (by rw [numsV_length, numsV_length, hnl]; simp)
    rw [e]
    simp
  have hp1 := (hB1.block _ (Array.getElem?_eq_some_iff.1 hC3.hp).1).trans hC3.hp
  have hx1 := (hB1.block _ (Array.getElem?_eq_some_iff.1 hC3.hx).1).trans hC3.hx
  have hS1 := hSn.below hB1
  have q5 := cellOf hp1 5
  have q6 := cellOf hp1 6
  have f5 := frozenOf hp1 5
  simp only [show ∀ (A : Option Addr) n c B m d, (a.vals A n c B m d)[5]? = some (.slice A n c) from fun _ _ _ _ _ _ => rfl, show ∀ (A : Option Addr) n c B m d, (a.vals A n c B m d)[6]? = some (.slice B m d) from fun _ _ _ _ _ _ => rfl] at q5 q6
  go_wp2_with fail
  have hpV : p < V.heap.size := (Array.getElem?_eq_some_iff.1 hC3.hp).1
  have hVw := hC3.below.size
  have hp2 : (W1.setCell ⟨p, 5, none⟩ (.slice (some ⟨V.heap.size, 0, none⟩) n n)).heap[p]? = some (.cells (a.vals (some ⟨V.heap.size, 0, none⟩) n n B m d) 63 (0, 0)) := setCell_heap hp1 5 _
  have hx2 : (W1.setCell ⟨p, 5, none⟩ (.slice (some ⟨V.heap.size, 0, none⟩) n n)).heap[w.heap.size]? = _ := setOther hx1 (by show p ≠ w.heap.size; omega)
  have hg2 : (W1.setCell ⟨p, 5, none⟩ (.slice (some ⟨V.heap.size, 0, none⟩) n n)).heap[V.heap.size]? = _ := setOther hg1' (by show p ≠ V.heap.size; omega)
  have hS2 : Reads (W1.setCell ⟨p, 5, none⟩ (.slice (some ⟨V.heap.size, 0, none⟩) n n)) .i64 B m a.ls := hS1.foot ((Foot.refl (fun i => i = p) W1).setCell (.inl rfl) _) (fun ad e h0 => HBP.out ad e h0)
  have HF : Aside (Foot (fun i => i = p) w (W1.setCell ⟨p, 5, none⟩ (.slice (some ⟨V.heap.size, 0, none⟩) n n))) := (Foot.ofBelow (hC3.below.trans (hB1.mono hVw)) (fun i => i = p)).setCell (p := ⟨p, 5, none⟩) (.inl rfl) _
  generalize W1.setCell ⟨p, 5, none⟩ (.slice (some ⟨V.heap.size, 0, none⟩) n n) = X1 at *
  clear k0 k1 k2 k3 k5 k6 k5a q5 q6 f5 hrun hmk hp1 hx1 hg1 hg1' hS1 hB1 hV0 hbV hsrc hRn hSn HRS HCL HAP HBP hwr hkd
  refine Calls.mono (Clone_any B m d a.ls X1 hS2 hml hBd) ?_
  rintro e w3 ⟨v, rfl, hO, hb3⟩
  go_wp2_with fail
  refine Calls.mono (Clip_own v m _ a.ls w3 hO hml) ?_
  rintro e w4 ⟨B', c', rfl, rfl, rfl⟩
  have hp3 := (hb3.block _ (Array.getElem?_eq_some_iff.1 hp2).1).trans hp2
  have hx3 := (hb3.block _ (Array.getElem?_eq_some_iff.1 hx2).1).trans hx2
  have hg3 := (hb3.block _ (Array.getElem?_eq_some_iff.1 hg2).1).trans hg2
  have q6 := cellOf hp3 6
  have f6 := frozenOf hp3 6
  simp only [show ∀ (A : Option Addr) n c B m d, (a.vals A n c B m d)[6]? = some (.slice B m d) from fun _ _ _ _ _ _ => rfl] at q6
  go_wp2_with fail
  have hpX : p < X1.heap.size := (Array.getElem?_eq_some_iff.1 hp2).1
  have hgX : V.heap.size < X1.heap.size := (Array.getElem?_eq_some_iff.1 hg2).1
  have hp4 : (w4.setCell ⟨p, 6, none⟩ (.slice B' m m)).heap[p]? = some (.cells (a.vals (some ⟨V.heap.size, 0, none⟩) n n B' m m) 63 (0, 0)) := setCell_heap hp3 6 _
  have hx4 : (w4.setCell ⟨p, 6, none⟩ (.slice B' m m)).heap[w.heap.size]? = _ := setOther hx3 (by show p ≠ w.heap.size; omega)
  have hg4 : (w4.setCell ⟨p, 6, none⟩ (.slice B' m m)).heap[V.heap.size]? = _ := setOther hg3 (by show p ≠ V.heap.size; omega)
  have HO4 : Aside ((w4.setCell ⟨p, 6, none⟩ (.slice B' m m)).ownsRow (V.heap.size + 1) 3 1 (.slice B' m c') m (nums .i64 a.ls)) := by
    refine Foot.own (F := fun i => i = p) ((Foot.refl (fun i => i = p) w4).setCell (.inl rfl) _) (own_weak hO (by omega)) (fun k hk h => ?_)
    rcases hO.2 with ⟨h1, _⟩ | ⟨g, cap, cur, h1, h2, _⟩
    · cases h1; cases hk
    · cases h1; cases hk; have h5 : g = p := h; omega
  have HF4 : Aside (Foot (fun i => i = p) w (w4.setCell ⟨p, 6, none⟩ (.slice B' m m))) := (HF.out.trans (Foot.ofBelow hb3 (fun _ => False)) (fun i h => h.elim)).setCell (p := ⟨p, 6, none⟩) (.inl rfl) _
  generalize w4.setCell ⟨p, 6, none⟩ (.slice B' m m) = X2 at *
  have k2 := cellOf hx4 2
  have k5 := cellOf hp4 5
  simp only [show ∀ (A : Option Addr) n c B m d, (a.vals A n c B m d)[5]? = some (.slice A n c) from fun _ _ _ _ _ _ => rfl] at k5
  replace k2 : X2.cell? ⟨w.heap.size, 2, none⟩ = some (.int .u64 (k : Int)) := k2
  have hk0 : (0 : Int) ≤ (k : Int) := by omega
  have hk1 : (k : Int) < (n : Int) := by omega
  have HG4 : Aside _ := hg4
  have HP4 : Aside _ := hp4
  clear q6 f6 hp3 hx3 hg3 hp2 hx2 hg2 hS2 hO hb3 HF hg4 hp4 hx4
  go_quiet (fail)
  go_wp2
  go_ret3
  exact ⟨V.heap.size, B', rfl, hVw, HG4.out, HP4.out, ⟨c', own_drewN HO4.out _⟩, HF4.out.drewN _⟩
end Go.Proofs.Ytanimonhnngfkaa.Own

/- cells.Meter, of an array of meters. -/
set_option linter.unusedVariables false
set_option linter.unusedSimpArgs false
namespace Go.Proofs.Ytanimonhnngfkaa.Own
open Go.RowKit

theorem cell_own' (a : Arr) (ho : a.ok) (A : Option Addr) (n c : Nat) (B : Option Addr) (m d p k : Nat) (hBd : B = none → d = 0) (x : Num) (hxw : x.wf) (hxo : x.ok) (hx0 : x.Hi = 0) (hxk : x.Lo = (k : Int)) (hk : k < n) (w W : World) (hb : Below w.heap.size w W) (hR : ReadsNums w A n a.cs) (hS : Reads w .i64 B m a.ls) (hp : W.heap[p]? = some (.cells (a.vals A n c B m d) 63 (0, 0))) (hpl : w.heap.size ≤ p) :
    Calls Try.prog 21 #[.pointer (some ⟨p, 0, none⟩), .int .u8 a.kd, x.v] W fun e w' => ∃ g B', e = .returned (.tuple #[.pointer (some ⟨g, k * 3, none⟩), .int .i64 (k : Int), .int .i64 0]) ∧
      W.heap.size ≤ g ∧ w'.heap[g]? = some (.cells (numsV a.cs).toArray 45 (0, 0)) ∧ w'.heap[p]? = some (.cells (a.vals (some ⟨g, 0, none⟩) n n B' m m) 63 (0, 0)) ∧ (∃ c', w'.ownsRow (g + 1) 3 1 (.slice B' m c') m (nums .i64 a.ls)) ∧ Foot (fun i => i = p) W w' :=
  cell_own a ho A n c B m d p k hBd x hxw hxo hx0 hxk hk W (hR.below hb) (hS.below hb) hp (fun ad e h0 => by have := nums_lt hR ad e h0; omega) (fun ad e h0 => by have := hS.block_lt ad e h0; omega)
theorem set_self_ {α : Type} (l : List α) (k : Nat) (z : α) (hk : k < l.length) : l.set k (l.getD k z) = l := by
  rw [List.getD_eq_getElem?_getD, List.getElem?_eq_getElem hk]
  simp
theorem numsV_set3 (cs : List Num) (k : Nat) (hk : k < cs.length) (W H L lo2 : Int) : (numsV (cs.set k ⟨W, H, L⟩)).set (k * 3 + 2) (.int .u64 lo2) = numsV (cs.set k ⟨W, H, lo2⟩) := by
  have h := numsV_set2 (cs.set k ⟨W, H, L⟩) k (by simpa using hk) lo2
  have e : (cs.set k ⟨W, H, L⟩).getD k zeroNum = ⟨W, H, L⟩ := by simp [List.getD_eq_getElem?_getD, hk]
  rw [e, List.set_set] at h
  exact h
theorem results_cct {P : Program} {fn : Func} {p p' u : Tmp} {ty ty' : TypeId} (h : fn.results = #[.cell p ty, .cell p' ty', .tmp u]) (tmps : Array Value) (w : World) (g g' : Nat) (t t' : TypeId) (cs cs' : Array Value) (fr fr' : Nat × Nat) (d d' : TypeDesc)
    (hp : tmps.getD p undef = .pointer (some ⟨g, 0, none⟩)) (hg : w.heap[g]? = some (.cells cs t fr))
    (hu : P.underlying ty = some d) (hd : (match d with | .struct _ | .array _ _ => true | _ => false) = true) (hi : (P.info? ty).map (·.size) = some cs.size)
    (hp' : tmps.getD p' undef = .pointer (some ⟨g', 0, none⟩)) (hg' : w.heap[g']? = some (.cells cs' t' fr'))
    (hu' : P.underlying ty' = some d') (hd' : (match d' with | .struct _ | .array _ _ => true | _ => false) = true) (hi' : (P.info? ty').map (·.size) = some cs'.size) :
    (results fn tmps).run P w = .ok (.tuple #[.agg cs, .agg cs', tmps.getD u undef]) w := by
  have h1 : tmps[p]?.getD undef = .pointer (some ⟨g, 0, none⟩) := by simpa using hp
  have h2 : tmps[p']?.getD undef = .pointer (some ⟨g', 0, none⟩) := by simpa using hp'
  simp [results, h, h1, h2, asAddr, run_loadVar_row w g t ty cs fr d hg hu hd hi, run_loadVar_row w g' t' ty' cs' fr' d' hg' hu' hd' hi']
theorem heap_drew {V : World} {i : Nat} {o : Obj} (h : V.heap[i]? = some o) : V.drew.heap[i]? = some o := h
theorem own_drew' {w : World} {base n : Nat} {e : TypeId} {size : Nat} {v : Value} {xs : List Value} (h : w.ownsRow base e size v n xs) : w.drew.ownsRow base e size v n xs := h
theorem own_frozen {w : World} {base n g c : Nat} {e : TypeId} {size : Nat} {xs : List Value} (h : w.ownsRow base e size (.slice (some ⟨g, 0, none⟩) n c) n xs) (j : Nat) : w.frozen? ⟨g, j, none⟩ = false := by
  rcases h.2 with ⟨h1, _⟩ | ⟨g', cap, cur, h1, _, h3, _⟩
  · cases h1
  · cases h1; exact frozenOf h3 j
theorem cells7' {V : World} {i : Nat} {a0 a1 a2 a3 a4 a5 a6 : Value} {t : TypeId} (h : Aside (V.heap[i]? = some (.cells #[a0, a1, a2, a3, a4, a5, a6] t (0, 0)))) :
    (V.cell? ⟨i, 0, none⟩ = some a0 ∧ V.cell? ⟨i, 1, none⟩ = some a1 ∧ V.cell? ⟨i, 2, none⟩ = some a2) ∧ V.cell? ⟨i, 3, none⟩ = some a3 ∧ V.cell? ⟨i, 4, none⟩ = some a4 ∧ V.cell? ⟨i, 5, none⟩ = some a5 ∧ V.cell? ⟨i, 6, none⟩ = some a6 :=
  ⟨⟨cellOf h.out 0, cellOf h.out 1, cellOf h.out 2⟩, cellOf h.out 3, cellOf h.out 4, cellOf h.out 5, cellOf h.out 6⟩
/-- The world at Meter's call of cell. -/
theorem box_meter (w : World) (c1 c2 c3 c4 c5 : Array Value) (t1 t2 t3 t4 t5 : TypeId) (W : World) (hW : W = ((((w.alloc (.cells c1 t1)).alloc (.cells c2 t2)).alloc (.cells c3 t3)).alloc (.cells c4 t4)).alloc (.cells c5 t5)) :
    Aside (W.heap[w.heap.size + 1 + 1 + 1 + 1]? = some (.cells c5 t5 (0, 0))) ∧ Aside (W.heap[w.heap.size + 1 + 1 + 1]? = some (.cells c4 t4 (0, 0))) ∧ Aside (W.heap[w.heap.size + 1 + 1]? = some (.cells c3 t3 (0, 0))) ∧ Aside (W.heap[w.heap.size]? = some (.cells c1 t1 (0, 0))) ∧ Aside (Below w.heap.size w W ∧ W.heap.size = w.heap.size + 5) := by
  obtain ⟨h1, h2, h3, h4, h5, h6⟩ := box_five w c1 c2 c3 c4 c5 t1 t2 t3 t4 t5 W hW
  exact ⟨h1, h2, h3, h4, h5, h6⟩
set_option maxRecDepth 100000 in
set_option maxHeartbeats 3200000 in
theorem Meter_st1 (a : Arr) (ho : a.ok) (hkd : a.kd = 5) (A : Option Addr) (n c : Nat) (B : Option Addr) (m d k : Nat) (hBd : B = none → d = 0) (x'W x'H x'L : Int) (hxx : a.cs.getD k zeroNum = ⟨x'W, x'H, x'L⟩) (last now : Int) (hll : a.ls.getD k 0 = last) (hn0 : 0 ≤ now) (hn1 : now ≤ 9223372036854775807) (hgt : ¬ last < now) (lo : Int) (hlo_ : lo = x'L) (hpos : 0 < lo) (x : Num) (hxw : x.wf) (hxo : x.ok) (hx0 : x.Hi = 0) (hxk : x.Lo = (k : Int)) (hk : k < n) (w : World) (hR : ReadsNums w A n a.cs) (hS : Reads w .i64 B m a.ls) :
    Calls Try.prog 18 #[.agg (a.vals A n c B m d), x.v, .int .i64 now] w fun e w' => ∃ g B' c', e = .returned (.tuple #[.agg ({ a with cs := a.cs.set k ⟨x'W, x'H, (lo - 1)⟩, ls := a.ls.set k last }.vals (some ⟨g, 0, none⟩) n n B' m m), .agg #[.int .i64 1, .int .u64 0, .int .u64 1], .int .i64 0]) ∧ w.heap.size ≤ g ∧ w'.heap[g]? = some (.cells (numsV (a.cs.set k ⟨x'W, x'H, (lo - 1)⟩)).toArray 45 (0, 0)) ∧ w'.ownsRow (g + 1) 3 1 (.slice B' m c') m (nums .i64 (a.ls.set k last)) ∧ Below w.heap.size w w' := by
  obtain ⟨HP, HV, HZ, HA, HBW⟩ := box_meter w (a.vals A n c B m d) #[.int .i64 x.W, .int .u64 x.Hi, .int .u64 x.Lo] zeroVals #[.int .i64 0, .int .u64 0, .int .u64 0] (a.vals A n c B m d) 38 45 38 45 63 _ rfl
  have HC := aside (cell_own' a ho A n c B m d (w.heap.size + 1 + 1 + 1 + 1) k hBd x hxw hxo hx0 hxk hk w _ HBW.out.1 hR hS HP.out (by omega))
  have hkl : k < a.cs.length := by rw [hR.1]; exact hk
  have hsc := ho.scal.2.2.2 hkd
  have hln := ho.len
  have hcell := ho.cells k hkl
  rw [hxx] at hcell
  have hlo := hcell.2.2.2 hkd
  have hlo0 := hcell.1.2.2.1
  have hla0 := ho.last k (by rw [hsc.2.2.2.2]; exact hkl)
  rw [hll] at hla0
  have hml : a.ls.length = m := hS.1
  have hnl : a.cs.length = n := hR.1
  have hmn : m = n := by rw [← hml, ← hnl]; exact hsc.2.2.2.2
  have HGET := aside (numsV_get a.cs k hkl)
  rw [hxx] at HGET
  have HSETA := aside (fun lo => by have := numsV_set2 a.cs k hkl lo; rwa [hxx] at this : ∀ lo, (numsV a.cs).set (k * 3 + 2) (.int .u64 lo) = numsV (a.cs.set k ⟨x'W, x'H, lo⟩))
  have HLL := aside hll
  have HXX := aside hxx
  clear hR hS hxw hxo hxx hcell hll
  obtain ⟨xW, xh, xl⟩ := x
  obtain ⟨nm, kd, aW, aR, aB, cs, ls⟩ := a
  simp only [Num.v, Arr.vals, zeroVals] at *
  subst hx0 hxk hkd hmn
  obtain ⟨r0, r1, b0, b1, _⟩ := hsc
  clear ho
  go_enter Try.func18, Try.ntmps18
  go_wp2_with fail
  refine Calls.mono HC.out ?_
  rintro e w1 ⟨g, B', rfl, hg0, hg1, hp1, ⟨c', hO⟩, hF1⟩
  obtain ⟨hbw, hsz⟩ := HBW.out
  replace HV := aside (hF1.blk HV.out (by omega))
  replace HZ := aside (hF1.blk HZ.out (by omega))
  replace HA := aside (hF1.blk HA.out (by omega))
  have HB := aside (hbw.trans (hF1.below (fun i hi => by omega) hbw.size))
  obtain ⟨b, c'', hB', hb0, hb1, hb2, hb3⟩ := own_some hO (by omega)
  cases hB'
  have HP := aside hp1
  have HG := aside hg1
  have HO := aside hO
  have hnow : decide (now < 0) = false := decide_eq_false (by omega)
  have hk0 : (0 : Int) ≤ (k : Int) := by omega
  have hk1 : (k : Int) < (m : Int) := by omega
  have l0 : w1.cell? ⟨b, k, none⟩ = some (.int .i64 last) := by rw [own_at hO k hk, HLL.out]
  obtain ⟨⟨p0, p1, p2⟩, p3, p4, p5, p6⟩ := cells7' HP
  obtain ⟨⟨a0, a1, a2⟩, a3, a4, a5, a6⟩ := cells7' HA
  have hd : decide (last < now) = false := decide_eq_false (by omega)
  have hd0 := eq_false (by omega : ¬ last < now)
  clear hp1 hg1 hO hF1 HC
  subst hlo_
  have hbg : ¬ b = g := by omega
  have HSETD := aside (fun lo2 => numsV_set3 cs k hkl x'W x'H lo lo2)
  have e1_ : cs.set k ⟨x'W, x'H, lo⟩ = cs := by rw [← HXX.out]; exact set_self_ cs k zeroNum hkl
  have e2_ : ls.set k last = ls := by rw [← HLL.out]; exact set_self_ ls k 0 (by omega)
  have HGT2 := aside (show (numsV (cs.set k ⟨x'W, x'H, lo⟩))[k * 3 + 2]? = some (.int .u64 lo) by rw [e1_]; exact HGET.out.2.2)
  replace HG := aside (show w1.heap[g]? = some (.cells (numsV (cs.set k ⟨x'W, x'H, lo⟩)).toArray 45 (0, 0)) by rw [e1_]; exact HG.out)
  replace HO := aside (show w1.ownsRow (g + 1) 3 1 (.slice (some ⟨b, 0, none⟩) m c') m (nums .i64 (ls.set k last)) by rw [e2_]; exact HO.out)
  clear e1_ e2_
  have HSETC := aside (show (numsV (cs.set k ⟨x'W, x'H, lo⟩)).set (k * 3 + 2) (.int .u64 (lo - 1)) = numsV (cs.set k ⟨x'W, x'H, lo - 1⟩) from HSETD.out _)
  have hgU : g < w1.heap.size := (Array.getElem?_eq_some_iff.1 HG.out).1
  have hpU : w.heap.size + 1 + 1 + 1 + 1 < w1.heap.size := (Array.getElem?_eq_some_iff.1 HP.out).1
  have hbU := (Below.refl w1.heap.size w1).alloc (Nat.le_refl _) (.cells #[.int .i64 1, .int .u64 0, .int .u64 0] 45)
  have HBX := aside (heap_alloc_new w1 (.cells #[.int .i64 1, .int .u64 0, .int .u64 0] 45))
  have MG := aside (heapOld w1 (.cells #[.int .i64 1, .int .u64 0, .int .u64 0] 45) _ _ HG.out)
  have MP := aside (heapOld w1 (.cells #[.int .i64 1, .int .u64 0, .int .u64 0] 45) _ _ HP.out)
  have MV := aside (heapOld w1 (.cells #[.int .i64 1, .int .u64 0, .int .u64 0] 45) _ _ HV.out)
  have MZ := aside (heapOld w1 (.cells #[.int .i64 1, .int .u64 0, .int .u64 0] 45) _ _ HZ.out)
  have MO := aside (own_keep HO.out hbU)
  have MB := aside (HB.out.trans (hbU.mono HB.out.size))
  have y2 : (w1.alloc (.cells #[.int .i64 1, .int .u64 0, .int .u64 0] 45)).cell? ⟨g, k * 3 + 2, none⟩ = some (.int .u64 lo) := (cellOf MG.out _).trans (by rw [List.getElem?_toArray]; exact HGT2.out)
  have fy := frozenOf MG.out
  have fx := frozenOf HBX.out
  have x0 := cellOf HBX.out 0
  have x1 := cellOf HBX.out 1
  have x2 := cellOf HBX.out 2
  simp only [List.getElem?_toArray, List.getElem?_cons_zero, List.getElem?_cons_succ] at x0 x1 x2
  have hgx : ¬ g = w1.heap.size := by omega
  have hxg : ¬ w1.heap.size = g := by omega
  have hlp : decide (0 < lo) = true := decide_eq_true (by omega)
  have hlq := eq_true (by omega : 0 < lo)
  clear hbU
  go_wp2_with fail
  clear y2 fx fy x0 x1 x2 HGT2
  have hgB : Aside (((w1.setCell ⟨g, k * 3 + 2, none⟩ (.int .u64 (lo - 1))).alloc (.cells #[.int .i64 1, .int .u64 0, .int .u64 1] 45)).heap[g]? = some (.cells (numsV (cs.set k ⟨x'W, x'H, lo - 1⟩)).toArray 45 (0, 0))) := by
    have h := setCell_heap HG.out (k * 3 + 2) (.int .u64 (lo - 1))
    rw [List.setIfInBounds_toArray, HSETC.out] at h
    exact heapOld _ _ _ _ h
  have hgP := aside (heapOld _ (.cells #[.int .i64 1, .int .u64 0, .int .u64 1] 45) _ _ (setOther HP.out (p := ⟨g, k * 3 + 2, none⟩) (v := .int .u64 (lo - 1)) (show g ≠ w.heap.size + 1 + 1 + 1 + 1 by omega)))
  have hgV := aside (heapOld _ (.cells #[.int .i64 1, .int .u64 0, .int .u64 1] 45) _ _ (setOther HV.out (p := ⟨g, k * 3 + 2, none⟩) (v := .int .u64 (lo - 1)) (show g ≠ w.heap.size + 1 + 1 + 1 by omega)))
  have hgZ := aside (heapOld _ (.cells #[.int .i64 1, .int .u64 0, .int .u64 1] 45) _ _ (setOther HZ.out (p := ⟨g, k * 3 + 2, none⟩) (v := .int .u64 (lo - 1)) (show g ≠ w.heap.size + 1 + 1 by omega)))
  have hgO := aside (own_keep (((Foot.refl (fun i => i = g) w1).setCell (p := ⟨g, k * 3 + 2, none⟩) (.inl rfl) (.int .u64 (lo - 1))).own HO.out (fun j hj h => by cases hj; exact hbg h)) ((Below.refl _ _).alloc (Nat.le_refl _) (.cells #[.int .i64 1, .int .u64 0, .int .u64 1] 45)))
  have hgN := aside (heapLit (w1.setCell ⟨g, k * 3 + 2, none⟩ (.int .u64 (lo - 1))) #[.int .i64 1, .int .u64 0, .int .u64 1] 45 w1.heap.size (by simp [World.setCell]))
  have hgB' := aside ((HB.out.setCell (p := ⟨g, k * 3 + 2, none⟩) (show w.heap.size ≤ g by omega) (.int .u64 (lo - 1))).alloc (HB.out.setCell (p := ⟨g, k * 3 + 2, none⟩) (show w.heap.size ≤ g by omega) (.int .u64 (lo - 1))).size (.cells #[.int .i64 1, .int .u64 0, .int .u64 1] 45))
  generalize (w1.setCell ⟨g, k * 3 + 2, none⟩ (.int .u64 (lo - 1))).alloc (.cells #[.int .i64 1, .int .u64 0, .int .u64 1] 45) = W5 at *
  clear MG MP MV MZ MO MB HBX
  obtain ⟨⟨p0, p1, p2⟩, p3, p4, p5, p6⟩ := cells7' (V := W5.drew) hgP
  obtain ⟨⟨z0, z1, z2⟩, z3, z4, z5, z6⟩ := cells7' (V := W5.drew) hgZ
  obtain ⟨⟨z0', z1', z2'⟩, z3', z4', z5', z6'⟩ := cells7' hgZ
  have v0 := cellOf hgV.out 0
  have v1 := cellOf hgV.out 1
  have v2 := cellOf hgV.out 2
  have n0 := cellOf (w := W5.drew) hgN.out 0
  have n1 := cellOf (w := W5.drew) hgN.out 1
  have n2 := cellOf (w := W5.drew) hgN.out 2
  have n0' := cellOf hgN.out 0
  have n1' := cellOf hgN.out 1
  have n2' := cellOf hgN.out 2
  have v0' := cellOf (w := W5.drew) hgV.out 0
  have v1' := cellOf (w := W5.drew) hgV.out 1
  have v2' := cellOf (w := W5.drew) hgV.out 2
  obtain ⟨⟨p0', p1', p2'⟩, p3', p4', p5', p6'⟩ := cells7' hgP
  have fz := frozenOf hgZ.out
  have fv := frozenOf hgV.out
  have fz' : ∀ i, W5.drew.frozen? ⟨_, i, none⟩ = false := fz
  have fv' : ∀ i, W5.drew.frozen? ⟨_, i, none⟩ = false := fv
  simp only [List.getElem?_toArray, List.getElem?_cons_zero, List.getElem?_cons_succ] at v0 v1 v2 n0 n1 n2 n0' n1' n2' v0' v1' v2'
  go_region
  have hwz : w.heap.size ≤ w.heap.size + 1 + 1 := by omega
  have hwv : w.heap.size ≤ w.heap.size + 1 + 1 + 1 := by omega
  have q1 : w.heap.size + 1 + 1 ≠ g := by omega
  have q2 : w.heap.size + 1 + 1 + 1 ≠ g := by omega
  have q3 : w.heap.size + 1 + 1 + 1 ≠ w.heap.size + 1 + 1 := by omega
  have q4 : w.heap.size + 1 + 1 ≠ w.heap.size + 1 + 1 + 1 := by omega
  have rZ := setOther (setOther (setOther (set7 hgZ.out (.string nm) (.int .u8 5) (.int .i64 aW) (.int .i64 aR) (.int .i64 aB) (.slice (some ⟨g, 0, none⟩) m m) (.slice (some ⟨b, 0, none⟩) m m)) (p := ⟨w.heap.size + 1 + 1 + 1, 0, none⟩) (v := .int .i64 1) q3) (p := ⟨w.heap.size + 1 + 1 + 1, 1, none⟩) (v := .int .u64 0) q3) (p := ⟨w.heap.size + 1 + 1 + 1, 2, none⟩) (v := .int .u64 1) q3
  have rV := set3 (setOther (setOther (setOther (setOther (setOther (setOther (setOther hgV.out (p := ⟨w.heap.size + 1 + 1, 0, none⟩) (v := .string nm) q4) (p := ⟨w.heap.size + 1 + 1, 1, none⟩) (v := .int .u8 5) q4) (p := ⟨w.heap.size + 1 + 1, 2, none⟩) (v := .int .i64 aW) q4) (p := ⟨w.heap.size + 1 + 1, 3, none⟩) (v := .int .i64 aR) q4) (p := ⟨w.heap.size + 1 + 1, 4, none⟩) (v := .int .i64 aB) q4) (p := ⟨w.heap.size + 1 + 1, 5, none⟩) (v := .slice (some ⟨g, 0, none⟩) m m) q4) (p := ⟨w.heap.size + 1 + 1, 6, none⟩) (v := .slice (some ⟨b, 0, none⟩) m m) q4) (.int .i64 1) (.int .u64 0) (.int .u64 1)
  have rG := setOther (setOther (setOther (setOther (setOther (setOther (setOther (setOther (setOther (setOther hgB.out (p := ⟨w.heap.size + 1 + 1, 0, none⟩) (v := .string nm) q1) (p := ⟨w.heap.size + 1 + 1, 1, none⟩) (v := .int .u8 5) q1) (p := ⟨w.heap.size + 1 + 1, 2, none⟩) (v := .int .i64 aW) q1) (p := ⟨w.heap.size + 1 + 1, 3, none⟩) (v := .int .i64 aR) q1) (p := ⟨w.heap.size + 1 + 1, 4, none⟩) (v := .int .i64 aB) q1) (p := ⟨w.heap.size + 1 + 1, 5, none⟩) (v := .slice (some ⟨g, 0, none⟩) m m) q1) (p := ⟨w.heap.size + 1 + 1, 6, none⟩) (v := .slice (some ⟨b, 0, none⟩) m m) q1) (p := ⟨w.heap.size + 1 + 1 + 1, 0, none⟩) (v := .int .i64 1) q2) (p := ⟨w.heap.size + 1 + 1 + 1, 1, none⟩) (v := .int .u64 0) q2) (p := ⟨w.heap.size + 1 + 1 + 1, 2, none⟩) (v := .int .u64 1) q2
  have rO := ((((((((((Foot.refl (fun i => i = w.heap.size + 1 + 1 ∨ i = w.heap.size + 1 + 1 + 1) W5).setCell (p := ⟨w.heap.size + 1 + 1, 0, none⟩) (.inl (.inl rfl)) (.string nm)).setCell (p := ⟨w.heap.size + 1 + 1, 1, none⟩) (.inl (.inl rfl)) (.int .u8 5)).setCell (p := ⟨w.heap.size + 1 + 1, 2, none⟩) (.inl (.inl rfl)) (.int .i64 aW)).setCell (p := ⟨w.heap.size + 1 + 1, 3, none⟩) (.inl (.inl rfl)) (.int .i64 aR)).setCell (p := ⟨w.heap.size + 1 + 1, 4, none⟩) (.inl (.inl rfl)) (.int .i64 aB)).setCell (p := ⟨w.heap.size + 1 + 1, 5, none⟩) (.inl (.inl rfl)) (.slice (some ⟨g, 0, none⟩) m m)).setCell (p := ⟨w.heap.size + 1 + 1, 6, none⟩) (.inl (.inl rfl)) (.slice (some ⟨b, 0, none⟩) m m)).setCell (p := ⟨w.heap.size + 1 + 1 + 1, 0, none⟩) (.inl (.inr rfl)) (.int .i64 1)).setCell (p := ⟨w.heap.size + 1 + 1 + 1, 1, none⟩) (.inl (.inr rfl)) (.int .u64 0)).setCell (p := ⟨w.heap.size + 1 + 1 + 1, 2, none⟩) (.inl (.inr rfl)) (.int .u64 1) |>.own hgO.out (fun j hj h => by cases hj; rcases h with h | h <;> (have h' : b = _ := h; omega))
  have rB := (((((((((hgB'.out.setCell (p := ⟨w.heap.size + 1 + 1, 0, none⟩) hwz (.string nm)).setCell (p := ⟨w.heap.size + 1 + 1, 1, none⟩) hwz (.int .u8 5)).setCell (p := ⟨w.heap.size + 1 + 1, 2, none⟩) hwz (.int .i64 aW)).setCell (p := ⟨w.heap.size + 1 + 1, 3, none⟩) hwz (.int .i64 aR)).setCell (p := ⟨w.heap.size + 1 + 1, 4, none⟩) hwz (.int .i64 aB)).setCell (p := ⟨w.heap.size + 1 + 1, 5, none⟩) hwz (.slice (some ⟨g, 0, none⟩) m m)).setCell (p := ⟨w.heap.size + 1 + 1, 6, none⟩) hwz (.slice (some ⟨b, 0, none⟩) m m)).setCell (p := ⟨w.heap.size + 1 + 1 + 1, 0, none⟩) hwv (.int .i64 1)).setCell (p := ⟨w.heap.size + 1 + 1 + 1, 1, none⟩) hwv (.int .u64 0)).setCell (p := ⟨w.heap.size + 1 + 1 + 1, 2, none⟩) hwv (.int .u64 1)
  go_wp2
  have rZ' := heap_drew rZ
  have rV' := heap_drew rV
  have rG' := heap_drew rG
  have rO' := own_drew' rO
  have rB' := rB.drew
  clear rZ rV rG rO rB q1 q2 q3 q4 hgB hgP hgV hgZ hgO hgN hgB'
  refine bodyPost_ret (results_cct rfl _ _ (w.heap.size + 1 + 1) (w.heap.size + 1 + 1 + 1) 38 45 _ _ (0, 0) (0, 0) _ _ rfl rZ' Try.underlying38 rfl (by kernel_rfl) rfl rV' Try.underlying45 rfl (by kernel_rfl)) rfl ?_
  refine ⟨g, some ⟨b, 0, none⟩, c', ?_, ?_, ?_, ?_, ?_⟩
  · rfl
  · omega
  · exact rG'
  · exact rO'
  · exact rB'
set_option maxRecDepth 100000 in
set_option maxHeartbeats 3200000 in
theorem Meter_st0 (a : Arr) (ho : a.ok) (hkd : a.kd = 5) (A : Option Addr) (n c : Nat) (B : Option Addr) (m d k : Nat) (hBd : B = none → d = 0) (x'W x'H x'L : Int) (hxx : a.cs.getD k zeroNum = ⟨x'W, x'H, x'L⟩) (last now : Int) (hll : a.ls.getD k 0 = last) (hn0 : 0 ≤ now) (hn1 : now ≤ 9223372036854775807) (hgt : ¬ last < now) (lo : Int) (hlo_ : lo = x'L) (hpos : ¬ 0 < lo) (x : Num) (hxw : x.wf) (hxo : x.ok) (hx0 : x.Hi = 0) (hxk : x.Lo = (k : Int)) (hk : k < n) (w : World) (hR : ReadsNums w A n a.cs) (hS : Reads w .i64 B m a.ls) :
    Calls Try.prog 18 #[.agg (a.vals A n c B m d), x.v, .int .i64 now] w fun e w' => ∃ g B' c', e = .returned (.tuple #[.agg ({ a with cs := a.cs.set k ⟨x'W, x'H, lo⟩, ls := a.ls.set k last }.vals (some ⟨g, 0, none⟩) n n B' m m), .agg #[.int .i64 1, .int .u64 0, .int .u64 0], .int .i64 0]) ∧ w.heap.size ≤ g ∧ w'.heap[g]? = some (.cells (numsV (a.cs.set k ⟨x'W, x'H, lo⟩)).toArray 45 (0, 0)) ∧ w'.ownsRow (g + 1) 3 1 (.slice B' m c') m (nums .i64 (a.ls.set k last)) ∧ Below w.heap.size w w' := by
  obtain ⟨HP, HV, HZ, HA, HBW⟩ := box_meter w (a.vals A n c B m d) #[.int .i64 x.W, .int .u64 x.Hi, .int .u64 x.Lo] zeroVals #[.int .i64 0, .int .u64 0, .int .u64 0] (a.vals A n c B m d) 38 45 38 45 63 _ rfl
  have HC := aside (cell_own' a ho A n c B m d (w.heap.size + 1 + 1 + 1 + 1) k hBd x hxw hxo hx0 hxk hk w _ HBW.out.1 hR hS HP.out (by omega))
  have hkl : k < a.cs.length := by rw [hR.1]; exact hk
  have hsc := ho.scal.2.2.2 hkd
  have hln := ho.len
  have hcell := ho.cells k hkl
  rw [hxx] at hcell
  have hlo := hcell.2.2.2 hkd
  have hlo0 := hcell.1.2.2.1
  have hla0 := ho.last k (by rw [hsc.2.2.2.2]; exact hkl)
  rw [hll] at hla0
  have hml : a.ls.length = m := hS.1
  have hnl : a.cs.length = n := hR.1
  have hmn : m = n := by rw [← hml, ← hnl]; exact hsc.2.2.2.2
  have HGET := aside (numsV_get a.cs k hkl)
  rw [hxx] at HGET
  have HSETA := aside (fun lo => by have := numsV_set2 a.cs k hkl lo; rwa [hxx] at this : ∀ lo, (numsV a.cs).set (k * 3 + 2) (.int .u64 lo) = numsV (a.cs.set k ⟨x'W, x'H, lo⟩))
  have HLL := aside hll
  have HXX := aside hxx
  clear hR hS hxw hxo hxx hcell hll
  obtain ⟨xW, xh, xl⟩ := x
  obtain ⟨nm, kd, aW, aR, aB, cs, ls⟩ := a
  simp only [Num.v, Arr.vals, zeroVals] at *
  subst hx0 hxk hkd hmn
  obtain ⟨r0, r1, b0, b1, _⟩ := hsc
  clear ho
  go_enter Try.func18, Try.ntmps18
  go_wp2_with fail
  refine Calls.mono HC.out ?_
  rintro e w1 ⟨g, B', rfl, hg0, hg1, hp1, ⟨c', hO⟩, hF1⟩
  obtain ⟨hbw, hsz⟩ := HBW.out
  replace HV := aside (hF1.blk HV.out (by omega))
  replace HZ := aside (hF1.blk HZ.out (by omega))
  replace HA := aside (hF1.blk HA.out (by omega))
  have HB := aside (hbw.trans (hF1.below (fun i hi => by omega) hbw.size))
  obtain ⟨b, c'', hB', hb0, hb1, hb2, hb3⟩ := own_some hO (by omega)
  cases hB'
  have HP := aside hp1
  have HG := aside hg1
  have HO := aside hO
  have hnow : decide (now < 0) = false := decide_eq_false (by omega)
  have hk0 : (0 : Int) ≤ (k : Int) := by omega
  have hk1 : (k : Int) < (m : Int) := by omega
  have l0 : w1.cell? ⟨b, k, none⟩ = some (.int .i64 last) := by rw [own_at hO k hk, HLL.out]
  obtain ⟨⟨p0, p1, p2⟩, p3, p4, p5, p6⟩ := cells7' HP
  obtain ⟨⟨a0, a1, a2⟩, a3, a4, a5, a6⟩ := cells7' HA
  have hd : decide (last < now) = false := decide_eq_false (by omega)
  have hd0 := eq_false (by omega : ¬ last < now)
  clear hp1 hg1 hO hF1 HC
  subst hlo_
  have hbg : ¬ b = g := by omega
  have HSETD := aside (fun lo2 => numsV_set3 cs k hkl x'W x'H lo lo2)
  have e1_ : cs.set k ⟨x'W, x'H, lo⟩ = cs := by rw [← HXX.out]; exact set_self_ cs k zeroNum hkl
  have e2_ : ls.set k last = ls := by rw [← HLL.out]; exact set_self_ ls k 0 (by omega)
  have HGT2 := aside (show (numsV (cs.set k ⟨x'W, x'H, lo⟩))[k * 3 + 2]? = some (.int .u64 lo) by rw [e1_]; exact HGET.out.2.2)
  replace HG := aside (show w1.heap[g]? = some (.cells (numsV (cs.set k ⟨x'W, x'H, lo⟩)).toArray 45 (0, 0)) by rw [e1_]; exact HG.out)
  replace HO := aside (show w1.ownsRow (g + 1) 3 1 (.slice (some ⟨b, 0, none⟩) m c') m (nums .i64 (ls.set k last)) by rw [e2_]; exact HO.out)
  clear e1_ e2_
  have HSETC := aside (show (numsV (cs.set k ⟨x'W, x'H, lo⟩)).set (k * 3 + 2) (.int .u64 (lo - 1)) = numsV (cs.set k ⟨x'W, x'H, lo - 1⟩) from HSETD.out _)
  have hgU : g < w1.heap.size := (Array.getElem?_eq_some_iff.1 HG.out).1
  have hpU : w.heap.size + 1 + 1 + 1 + 1 < w1.heap.size := (Array.getElem?_eq_some_iff.1 HP.out).1
  have hbU := (Below.refl w1.heap.size w1).alloc (Nat.le_refl _) (.cells #[.int .i64 1, .int .u64 0, .int .u64 0] 45)
  have HBX := aside (heap_alloc_new w1 (.cells #[.int .i64 1, .int .u64 0, .int .u64 0] 45))
  have MG := aside (heapOld w1 (.cells #[.int .i64 1, .int .u64 0, .int .u64 0] 45) _ _ HG.out)
  have MP := aside (heapOld w1 (.cells #[.int .i64 1, .int .u64 0, .int .u64 0] 45) _ _ HP.out)
  have MV := aside (heapOld w1 (.cells #[.int .i64 1, .int .u64 0, .int .u64 0] 45) _ _ HV.out)
  have MZ := aside (heapOld w1 (.cells #[.int .i64 1, .int .u64 0, .int .u64 0] 45) _ _ HZ.out)
  have MO := aside (own_keep HO.out hbU)
  have MB := aside (HB.out.trans (hbU.mono HB.out.size))
  have y2 : (w1.alloc (.cells #[.int .i64 1, .int .u64 0, .int .u64 0] 45)).cell? ⟨g, k * 3 + 2, none⟩ = some (.int .u64 lo) := (cellOf MG.out _).trans (by rw [List.getElem?_toArray]; exact HGT2.out)
  have fy := frozenOf MG.out
  have fx := frozenOf HBX.out
  have x0 := cellOf HBX.out 0
  have x1 := cellOf HBX.out 1
  have x2 := cellOf HBX.out 2
  simp only [List.getElem?_toArray, List.getElem?_cons_zero, List.getElem?_cons_succ] at x0 x1 x2
  have hgx : ¬ g = w1.heap.size := by omega
  have hxg : ¬ w1.heap.size = g := by omega
  have hlp : decide (0 < lo) = false := decide_eq_false (by omega)
  have hlq := eq_false (by omega : ¬ 0 < lo)
  clear hbU
  go_wp2_with fail
  clear y2 fx fy x0 x1 x2 HGT2
  have hgB := MG
  have hgP := MP
  have hgV := MV
  have hgZ := MZ
  have hgO := MO
  have hgN := HBX
  have hgB' := MB
  generalize w1.alloc (.cells #[.int .i64 1, .int .u64 0, .int .u64 0] 45) = W5 at *
  clear MG MP MV MZ MO MB HBX
  obtain ⟨⟨p0, p1, p2⟩, p3, p4, p5, p6⟩ := cells7' (V := W5.drew) hgP
  obtain ⟨⟨z0, z1, z2⟩, z3, z4, z5, z6⟩ := cells7' (V := W5.drew) hgZ
  obtain ⟨⟨z0', z1', z2'⟩, z3', z4', z5', z6'⟩ := cells7' hgZ
  have v0 := cellOf hgV.out 0
  have v1 := cellOf hgV.out 1
  have v2 := cellOf hgV.out 2
  have n0 := cellOf (w := W5.drew) hgN.out 0
  have n1 := cellOf (w := W5.drew) hgN.out 1
  have n2 := cellOf (w := W5.drew) hgN.out 2
  have n0' := cellOf hgN.out 0
  have n1' := cellOf hgN.out 1
  have n2' := cellOf hgN.out 2
  have v0' := cellOf (w := W5.drew) hgV.out 0
  have v1' := cellOf (w := W5.drew) hgV.out 1
  have v2' := cellOf (w := W5.drew) hgV.out 2
  obtain ⟨⟨p0', p1', p2'⟩, p3', p4', p5', p6'⟩ := cells7' hgP
  have fz := frozenOf hgZ.out
  have fv := frozenOf hgV.out
  have fz' : ∀ i, W5.drew.frozen? ⟨_, i, none⟩ = false := fz
  have fv' : ∀ i, W5.drew.frozen? ⟨_, i, none⟩ = false := fv
  simp only [List.getElem?_toArray, List.getElem?_cons_zero, List.getElem?_cons_succ] at v0 v1 v2 n0 n1 n2 n0' n1' n2' v0' v1' v2'
  go_region
  have hwz : w.heap.size ≤ w.heap.size + 1 + 1 := by omega
  have hwv : w.heap.size ≤ w.heap.size + 1 + 1 + 1 := by omega
  have q1 : w.heap.size + 1 + 1 ≠ g := by omega
  have q2 : w.heap.size + 1 + 1 + 1 ≠ g := by omega
  have q3 : w.heap.size + 1 + 1 + 1 ≠ w.heap.size + 1 + 1 := by omega
  have q4 : w.heap.size + 1 + 1 ≠ w.heap.size + 1 + 1 + 1 := by omega
  have rZ := setOther (setOther (setOther (set7 hgZ.out (.string nm) (.int .u8 5) (.int .i64 aW) (.int .i64 aR) (.int .i64 aB) (.slice (some ⟨g, 0, none⟩) m m) (.slice (some ⟨b, 0, none⟩) m m)) (p := ⟨w.heap.size + 1 + 1 + 1, 0, none⟩) (v := .int .i64 1) q3) (p := ⟨w.heap.size + 1 + 1 + 1, 1, none⟩) (v := .int .u64 0) q3) (p := ⟨w.heap.size + 1 + 1 + 1, 2, none⟩) (v := .int .u64 0) q3
  have rV := set3 (setOther (setOther (setOther (setOther (setOther (setOther (setOther hgV.out (p := ⟨w.heap.size + 1 + 1, 0, none⟩) (v := .string nm) q4) (p := ⟨w.heap.size + 1 + 1, 1, none⟩) (v := .int .u8 5) q4) (p := ⟨w.heap.size + 1 + 1, 2, none⟩) (v := .int .i64 aW) q4) (p := ⟨w.heap.size + 1 + 1, 3, none⟩) (v := .int .i64 aR) q4) (p := ⟨w.heap.size + 1 + 1, 4, none⟩) (v := .int .i64 aB) q4) (p := ⟨w.heap.size + 1 + 1, 5, none⟩) (v := .slice (some ⟨g, 0, none⟩) m m) q4) (p := ⟨w.heap.size + 1 + 1, 6, none⟩) (v := .slice (some ⟨b, 0, none⟩) m m) q4) (.int .i64 1) (.int .u64 0) (.int .u64 0)
  have rG := setOther (setOther (setOther (setOther (setOther (setOther (setOther (setOther (setOther (setOther hgB.out (p := ⟨w.heap.size + 1 + 1, 0, none⟩) (v := .string nm) q1) (p := ⟨w.heap.size + 1 + 1, 1, none⟩) (v := .int .u8 5) q1) (p := ⟨w.heap.size + 1 + 1, 2, none⟩) (v := .int .i64 aW) q1) (p := ⟨w.heap.size + 1 + 1, 3, none⟩) (v := .int .i64 aR) q1) (p := ⟨w.heap.size + 1 + 1, 4, none⟩) (v := .int .i64 aB) q1) (p := ⟨w.heap.size + 1 + 1, 5, none⟩) (v := .slice (some ⟨g, 0, none⟩) m m) q1) (p := ⟨w.heap.size + 1 + 1, 6, none⟩) (v := .slice (some ⟨b, 0, none⟩) m m) q1) (p := ⟨w.heap.size + 1 + 1 + 1, 0, none⟩) (v := .int .i64 1) q2) (p := ⟨w.heap.size + 1 + 1 + 1, 1, none⟩) (v := .int .u64 0) q2) (p := ⟨w.heap.size + 1 + 1 + 1, 2, none⟩) (v := .int .u64 0) q2
  have rO := ((((((((((Foot.refl (fun i => i = w.heap.size + 1 + 1 ∨ i = w.heap.size + 1 + 1 + 1) W5).setCell (p := ⟨w.heap.size + 1 + 1, 0, none⟩) (.inl (.inl rfl)) (.string nm)).setCell (p := ⟨w.heap.size + 1 + 1, 1, none⟩) (.inl (.inl rfl)) (.int .u8 5)).setCell (p := ⟨w.heap.size + 1 + 1, 2, none⟩) (.inl (.inl rfl)) (.int .i64 aW)).setCell (p := ⟨w.heap.size + 1 + 1, 3, none⟩) (.inl (.inl rfl)) (.int .i64 aR)).setCell (p := ⟨w.heap.size + 1 + 1, 4, none⟩) (.inl (.inl rfl)) (.int .i64 aB)).setCell (p := ⟨w.heap.size + 1 + 1, 5, none⟩) (.inl (.inl rfl)) (.slice (some ⟨g, 0, none⟩) m m)).setCell (p := ⟨w.heap.size + 1 + 1, 6, none⟩) (.inl (.inl rfl)) (.slice (some ⟨b, 0, none⟩) m m)).setCell (p := ⟨w.heap.size + 1 + 1 + 1, 0, none⟩) (.inl (.inr rfl)) (.int .i64 1)).setCell (p := ⟨w.heap.size + 1 + 1 + 1, 1, none⟩) (.inl (.inr rfl)) (.int .u64 0)).setCell (p := ⟨w.heap.size + 1 + 1 + 1, 2, none⟩) (.inl (.inr rfl)) (.int .u64 0) |>.own hgO.out (fun j hj h => by cases hj; rcases h with h | h <;> (have h' : b = _ := h; omega))
  have rB := (((((((((hgB'.out.setCell (p := ⟨w.heap.size + 1 + 1, 0, none⟩) hwz (.string nm)).setCell (p := ⟨w.heap.size + 1 + 1, 1, none⟩) hwz (.int .u8 5)).setCell (p := ⟨w.heap.size + 1 + 1, 2, none⟩) hwz (.int .i64 aW)).setCell (p := ⟨w.heap.size + 1 + 1, 3, none⟩) hwz (.int .i64 aR)).setCell (p := ⟨w.heap.size + 1 + 1, 4, none⟩) hwz (.int .i64 aB)).setCell (p := ⟨w.heap.size + 1 + 1, 5, none⟩) hwz (.slice (some ⟨g, 0, none⟩) m m)).setCell (p := ⟨w.heap.size + 1 + 1, 6, none⟩) hwz (.slice (some ⟨b, 0, none⟩) m m)).setCell (p := ⟨w.heap.size + 1 + 1 + 1, 0, none⟩) hwv (.int .i64 1)).setCell (p := ⟨w.heap.size + 1 + 1 + 1, 1, none⟩) hwv (.int .u64 0)).setCell (p := ⟨w.heap.size + 1 + 1 + 1, 2, none⟩) hwv (.int .u64 0)
  go_wp2
  have rZ' := heap_drew rZ
  have rV' := heap_drew rV
  have rG' := heap_drew rG
  have rO' := own_drew' rO
  have rB' := rB.drew
  clear rZ rV rG rO rB q1 q2 q3 q4 hgB hgP hgV hgZ hgO hgN hgB'
  refine bodyPost_ret (results_cct rfl _ _ (w.heap.size + 1 + 1) (w.heap.size + 1 + 1 + 1) 38 45 _ _ (0, 0) (0, 0) _ _ rfl rZ' Try.underlying38 rfl (by kernel_rfl) rfl rV' Try.underlying45 rfl (by kernel_rfl)) rfl ?_
  refine ⟨g, some ⟨b, 0, none⟩, c', ?_, ?_, ?_, ?_, ?_⟩
  · rfl
  · omega
  · exact rG'
  · exact rO'
  · exact rB'
set_option maxRecDepth 100000 in
set_option maxHeartbeats 3200000 in
theorem Meter_go001 (a : Arr) (ho : a.ok) (hkd : a.kd = 5) (A : Option Addr) (n c : Nat) (B : Option Addr) (m d k : Nat) (hBd : B = none → d = 0) (x'W x'H x'L : Int) (hxx : a.cs.getD k zeroNum = ⟨x'W, x'H, x'L⟩) (last now : Int) (hll : a.ls.getD k 0 = last) (hn0 : 0 ≤ now) (hn1 : now ≤ 9223372036854775807) (hgt : last < now) (hq : ¬ a.Burst < now - last) (mo : Int) (hmo : IntKind.u64.wrap ((now - last) * a.Rate) = mo) (hmo0 : 0 ≤ mo) (hmo1 : mo ≤ 4294836225) (hl : ¬ a.Burst < x'L + mo) (lo : Int) (hlo_ : lo = x'L + mo) (hpos : 0 < lo) (x : Num) (hxw : x.wf) (hxo : x.ok) (hx0 : x.Hi = 0) (hxk : x.Lo = (k : Int)) (hk : k < n) (w : World) (hR : ReadsNums w A n a.cs) (hS : Reads w .i64 B m a.ls) :
    Calls Try.prog 18 #[.agg (a.vals A n c B m d), x.v, .int .i64 now] w fun e w' => ∃ g B' c', e = .returned (.tuple #[.agg ({ a with cs := a.cs.set k ⟨x'W, x'H, (lo - 1)⟩, ls := a.ls.set k now }.vals (some ⟨g, 0, none⟩) n n B' m m), .agg #[.int .i64 1, .int .u64 0, .int .u64 1], .int .i64 0]) ∧ w.heap.size ≤ g ∧ w'.heap[g]? = some (.cells (numsV (a.cs.set k ⟨x'W, x'H, (lo - 1)⟩)).toArray 45 (0, 0)) ∧ w'.ownsRow (g + 1) 3 1 (.slice B' m c') m (nums .i64 (a.ls.set k now)) ∧ Below w.heap.size w w' := by
  obtain ⟨HP, HV, HZ, HA, HBW⟩ := box_meter w (a.vals A n c B m d) #[.int .i64 x.W, .int .u64 x.Hi, .int .u64 x.Lo] zeroVals #[.int .i64 0, .int .u64 0, .int .u64 0] (a.vals A n c B m d) 38 45 38 45 63 _ rfl
  have HC := aside (cell_own' a ho A n c B m d (w.heap.size + 1 + 1 + 1 + 1) k hBd x hxw hxo hx0 hxk hk w _ HBW.out.1 hR hS HP.out (by omega))
  have hkl : k < a.cs.length := by rw [hR.1]; exact hk
  have hsc := ho.scal.2.2.2 hkd
  have hln := ho.len
  have hcell := ho.cells k hkl
  rw [hxx] at hcell
  have hlo := hcell.2.2.2 hkd
  have hlo0 := hcell.1.2.2.1
  have hla0 := ho.last k (by rw [hsc.2.2.2.2]; exact hkl)
  rw [hll] at hla0
  have hml : a.ls.length = m := hS.1
  have hnl : a.cs.length = n := hR.1
  have hmn : m = n := by rw [← hml, ← hnl]; exact hsc.2.2.2.2
  have HGET := aside (numsV_get a.cs k hkl)
  rw [hxx] at HGET
  have HSETA := aside (fun lo => by have := numsV_set2 a.cs k hkl lo; rwa [hxx] at this : ∀ lo, (numsV a.cs).set (k * 3 + 2) (.int .u64 lo) = numsV (a.cs.set k ⟨x'W, x'H, lo⟩))
  have HLL := aside hll
  have HXX := aside hxx
  clear hR hS hxw hxo hxx hcell hll
  obtain ⟨xW, xh, xl⟩ := x
  obtain ⟨nm, kd, aW, aR, aB, cs, ls⟩ := a
  simp only [Num.v, Arr.vals, zeroVals] at *
  subst hx0 hxk hkd hmn
  obtain ⟨r0, r1, b0, b1, _⟩ := hsc
  clear ho
  go_enter Try.func18, Try.ntmps18
  go_wp2_with fail
  refine Calls.mono HC.out ?_
  rintro e w1 ⟨g, B', rfl, hg0, hg1, hp1, ⟨c', hO⟩, hF1⟩
  obtain ⟨hbw, hsz⟩ := HBW.out
  replace HV := aside (hF1.blk HV.out (by omega))
  replace HZ := aside (hF1.blk HZ.out (by omega))
  replace HA := aside (hF1.blk HA.out (by omega))
  have HB := aside (hbw.trans (hF1.below (fun i hi => by omega) hbw.size))
  obtain ⟨b, c'', hB', hb0, hb1, hb2, hb3⟩ := own_some hO (by omega)
  cases hB'
  have HP := aside hp1
  have HG := aside hg1
  have HO := aside hO
  have hnow : decide (now < 0) = false := decide_eq_false (by omega)
  have hk0 : (0 : Int) ≤ (k : Int) := by omega
  have hk1 : (k : Int) < (m : Int) := by omega
  have l0 : w1.cell? ⟨b, k, none⟩ = some (.int .i64 last) := by rw [own_at hO k hk, HLL.out]
  obtain ⟨⟨p0, p1, p2⟩, p3, p4, p5, p6⟩ := cells7' HP
  obtain ⟨⟨a0, a1, a2⟩, a3, a4, a5, a6⟩ := cells7' HA
  have hd : decide (last < now) = true := decide_eq_true (by omega)
  have hd0 := eq_true (by omega : last < now)
  clear hp1 hg1 hO hF1 HC
  have hqd : decide (aB < now - last) = false := decide_eq_false (by omega)
  have hqt := eq_false (by omega : ¬ aB < now - last)
  have hld : decide (aB < x'L + mo) = false := decide_eq_false (by omega)
  have hlt := eq_false (by omega : ¬ aB < x'L + mo)
  go_wp2_with fail
  go_region
  have g2 : w1.cell? ⟨g, k * 3 + 2, none⟩ = some (.int .u64 x'L) := (cellOf HG.out _).trans (by rw [List.getElem?_toArray]; exact HGET.out.2.2)
  have g2' : w1.drew.cell? ⟨g, k * 3 + 2, none⟩ = some (.int .u64 x'L) := g2
  have fg := frozenOf HG.out
  have fg' : ∀ i, w1.drew.frozen? ⟨g, i, none⟩ = false := fg
  have l0' : w1.drew.cell? ⟨b, k, none⟩ = some (.int .i64 last) := l0
  have fb : w1.frozen? ⟨b, k, none⟩ = false := own_frozen HO.out k
  have fb' : w1.drew.frozen? ⟨b, k, none⟩ = false := fb
  have a4' : w1.drew.cell? ⟨w.heap.size, 4, none⟩ = some (.int .i64 aB) := a4
  have hbg : ¬ b = g := by omega
  have hgb : ¬ g = b := by omega
  go_wp2_with fail
  go_region
  clear g2 g2' fg fg' l0 l0' fb fb' a4' a0 a1 a2 a3 a4 a5 a6 p0 p1 p2 p3 p4 p5 p6 hqd hqt hld hlt
  subst hlo_
  have n1 : g ≠ w.heap.size + 1 + 1 + 1 + 1 := by omega
  have n2 : b ≠ w.heap.size + 1 + 1 + 1 + 1 := by omega
  have n3 : g ≠ w.heap.size + 1 + 1 + 1 := by omega
  have n4 : b ≠ w.heap.size + 1 + 1 + 1 := by omega
  have n5 : g ≠ w.heap.size + 1 + 1 := by omega
  have n6 : b ≠ w.heap.size + 1 + 1 := by omega
  have mG := setOther (setCell_heap HG.out (k * 3 + 2) (.int .u64 (x'L + mo))) (p := ⟨b, k, none⟩) (v := .int .i64 now) hbg
  rw [List.setIfInBounds_toArray, HSETA.out] at mG
  have mO := own_put (((Foot.refl (fun i => i = g) w1).setCell (p := ⟨g, k * 3 + 2, none⟩) (.inl rfl) (.int .u64 (x'L + mo))).own HO.out (fun j hj h => by cases hj; exact hbg h)) k now
  have mP := setOther (setOther HP.out (p := ⟨g, k * 3 + 2, none⟩) (v := .int .u64 (x'L + mo)) n1) (p := ⟨b, k, none⟩) (v := .int .i64 now) n2
  have mV := setOther (setOther HV.out (p := ⟨g, k * 3 + 2, none⟩) (v := .int .u64 (x'L + mo)) n3) (p := ⟨b, k, none⟩) (v := .int .i64 now) n4
  have mZ := setOther (setOther HZ.out (p := ⟨g, k * 3 + 2, none⟩) (v := .int .u64 (x'L + mo)) n5) (p := ⟨b, k, none⟩) (v := .int .i64 now) n6
  have mB := (HB.out.setCell (p := ⟨g, k * 3 + 2, none⟩) (show w.heap.size ≤ g by omega) (.int .u64 (x'L + mo))).setCell (p := ⟨b, k, none⟩) (show w.heap.size ≤ b by omega) (.int .i64 now)
  have hU1 : (((w1.setCell ⟨g, k * 3 + 2, none⟩ (.int .u64 (x'L + mo))).setCell ⟨b, k, none⟩ (.int .i64 now)).drew.drew).heap = ((w1.setCell ⟨g, k * 3 + 2, none⟩ (.int .u64 (x'L + mo))).setCell ⟨b, k, none⟩ (.int .i64 now)).heap := rfl
  replace HG := aside ((congrArg (fun (h : Array Obj) => h[g]?) hU1).trans mG)
  replace HP := aside ((congrArg (fun (h : Array Obj) => h[w.heap.size + 1 + 1 + 1 + 1]?) hU1).trans mP)
  replace HV := aside ((congrArg (fun (h : Array Obj) => h[w.heap.size + 1 + 1 + 1]?) hU1).trans mV)
  replace HZ := aside ((congrArg (fun (h : Array Obj) => h[w.heap.size + 1 + 1]?) hU1).trans mZ)
  replace HO := aside (show (((w1.setCell ⟨g, k * 3 + 2, none⟩ (.int .u64 (x'L + mo))).setCell ⟨b, k, none⟩ (.int .i64 now)).drew.drew).ownsRow (g + 1) 3 1 (.slice (some ⟨b, 0, none⟩) m c') m (nums .i64 (ls.set k now)) from mO)
  replace HB := aside mB.drew.drew
  clear mG mO mP mV mZ mB hU1 HA n1 n2 n3 n4 n5 n6
  generalize (((w1.setCell ⟨g, k * 3 + 2, none⟩ (.int .u64 (x'L + mo))).setCell ⟨b, k, none⟩ (.int .i64 now)).drew.drew) = U at *
  have HSETB := aside (numsV_set2 (cs.set k ⟨x'W, x'H, (x'L + mo)⟩) k (by simpa using hkl))
  have HSETD := aside (fun lo2 => numsV_set3 cs k hkl x'W x'H (x'L + mo) lo2)
  have HGT2 := aside (show (numsV (cs.set k ⟨x'W, x'H, (x'L + mo)⟩))[k * 3 + 2]? = some (.int .u64 (x'L + mo)) by rw [← HSETA.out, List.getElem?_set_self (by rw [numsV_length]; omega)])
  have HSETC := aside (show (numsV (cs.set k ⟨x'W, x'H, (x'L + mo)⟩)).set (k * 3 + 2) (.int .u64 ((x'L + mo) - 1)) = numsV (cs.set k ⟨x'W, x'H, (x'L + mo) - 1⟩) from HSETD.out _)
  have hgU : g < U.heap.size := (Array.getElem?_eq_some_iff.1 HG.out).1
  have hpU : w.heap.size + 1 + 1 + 1 + 1 < U.heap.size := (Array.getElem?_eq_some_iff.1 HP.out).1
  have hbU := (Below.refl U.heap.size U).alloc (Nat.le_refl _) (.cells #[.int .i64 1, .int .u64 0, .int .u64 0] 45)
  have HBX := aside (heap_alloc_new U (.cells #[.int .i64 1, .int .u64 0, .int .u64 0] 45))
  have MG := aside (heapOld U (.cells #[.int .i64 1, .int .u64 0, .int .u64 0] 45) _ _ HG.out)
  have MP := aside (heapOld U (.cells #[.int .i64 1, .int .u64 0, .int .u64 0] 45) _ _ HP.out)
  have MV := aside (heapOld U (.cells #[.int .i64 1, .int .u64 0, .int .u64 0] 45) _ _ HV.out)
  have MZ := aside (heapOld U (.cells #[.int .i64 1, .int .u64 0, .int .u64 0] 45) _ _ HZ.out)
  have MO := aside (own_keep HO.out hbU)
  have MB := aside (HB.out.trans (hbU.mono HB.out.size))
  have y2 : (U.alloc (.cells #[.int .i64 1, .int .u64 0, .int .u64 0] 45)).cell? ⟨g, k * 3 + 2, none⟩ = some (.int .u64 (x'L + mo)) := (cellOf MG.out _).trans (by rw [List.getElem?_toArray]; exact HGT2.out)
  have fy := frozenOf MG.out
  have fx := frozenOf HBX.out
  have x0 := cellOf HBX.out 0
  have x1 := cellOf HBX.out 1
  have x2 := cellOf HBX.out 2
  simp only [List.getElem?_toArray, List.getElem?_cons_zero, List.getElem?_cons_succ] at x0 x1 x2
  have hgx : ¬ g = U.heap.size := by omega
  have hxg : ¬ U.heap.size = g := by omega
  have hlp : decide (0 < (x'L + mo)) = true := decide_eq_true (by omega)
  have hlq := eq_true (by omega : 0 < (x'L + mo))
  clear hbU
  go_wp2_with fail
  clear y2 fx fy x0 x1 x2 HGT2
  have hgB : Aside (((U.setCell ⟨g, k * 3 + 2, none⟩ (.int .u64 ((x'L + mo) - 1))).alloc (.cells #[.int .i64 1, .int .u64 0, .int .u64 1] 45)).heap[g]? = some (.cells (numsV (cs.set k ⟨x'W, x'H, (x'L + mo) - 1⟩)).toArray 45 (0, 0))) := by
    have h := setCell_heap HG.out (k * 3 + 2) (.int .u64 ((x'L + mo) - 1))
    rw [List.setIfInBounds_toArray, HSETC.out] at h
    exact heapOld _ _ _ _ h
  have hgP := aside (heapOld _ (.cells #[.int .i64 1, .int .u64 0, .int .u64 1] 45) _ _ (setOther HP.out (p := ⟨g, k * 3 + 2, none⟩) (v := .int .u64 ((x'L + mo) - 1)) (show g ≠ w.heap.size + 1 + 1 + 1 + 1 by omega)))
  have hgV := aside (heapOld _ (.cells #[.int .i64 1, .int .u64 0, .int .u64 1] 45) _ _ (setOther HV.out (p := ⟨g, k * 3 + 2, none⟩) (v := .int .u64 ((x'L + mo) - 1)) (show g ≠ w.heap.size + 1 + 1 + 1 by omega)))
  have hgZ := aside (heapOld _ (.cells #[.int .i64 1, .int .u64 0, .int .u64 1] 45) _ _ (setOther HZ.out (p := ⟨g, k * 3 + 2, none⟩) (v := .int .u64 ((x'L + mo) - 1)) (show g ≠ w.heap.size + 1 + 1 by omega)))
  have hgO := aside (own_keep (((Foot.refl (fun i => i = g) U).setCell (p := ⟨g, k * 3 + 2, none⟩) (.inl rfl) (.int .u64 ((x'L + mo) - 1))).own HO.out (fun j hj h => by cases hj; exact hbg h)) ((Below.refl _ _).alloc (Nat.le_refl _) (.cells #[.int .i64 1, .int .u64 0, .int .u64 1] 45)))
  have hgN := aside (heapLit (U.setCell ⟨g, k * 3 + 2, none⟩ (.int .u64 ((x'L + mo) - 1))) #[.int .i64 1, .int .u64 0, .int .u64 1] 45 U.heap.size (by simp [World.setCell]))
  have hgB' := aside ((HB.out.setCell (p := ⟨g, k * 3 + 2, none⟩) (show w.heap.size ≤ g by omega) (.int .u64 ((x'L + mo) - 1))).alloc (HB.out.setCell (p := ⟨g, k * 3 + 2, none⟩) (show w.heap.size ≤ g by omega) (.int .u64 ((x'L + mo) - 1))).size (.cells #[.int .i64 1, .int .u64 0, .int .u64 1] 45))
  generalize (U.setCell ⟨g, k * 3 + 2, none⟩ (.int .u64 ((x'L + mo) - 1))).alloc (.cells #[.int .i64 1, .int .u64 0, .int .u64 1] 45) = W5 at *
  clear MG MP MV MZ MO MB HBX
  obtain ⟨⟨p0, p1, p2⟩, p3, p4, p5, p6⟩ := cells7' (V := W5.drew) hgP
  obtain ⟨⟨z0, z1, z2⟩, z3, z4, z5, z6⟩ := cells7' (V := W5.drew) hgZ
  obtain ⟨⟨z0', z1', z2'⟩, z3', z4', z5', z6'⟩ := cells7' hgZ
  have v0 := cellOf hgV.out 0
  have v1 := cellOf hgV.out 1
  have v2 := cellOf hgV.out 2
  have n0 := cellOf (w := W5.drew) hgN.out 0
  have n1 := cellOf (w := W5.drew) hgN.out 1
  have n2 := cellOf (w := W5.drew) hgN.out 2
  have n0' := cellOf hgN.out 0
  have n1' := cellOf hgN.out 1
  have n2' := cellOf hgN.out 2
  have v0' := cellOf (w := W5.drew) hgV.out 0
  have v1' := cellOf (w := W5.drew) hgV.out 1
  have v2' := cellOf (w := W5.drew) hgV.out 2
  obtain ⟨⟨p0', p1', p2'⟩, p3', p4', p5', p6'⟩ := cells7' hgP
  have fz := frozenOf hgZ.out
  have fv := frozenOf hgV.out
  have fz' : ∀ i, W5.drew.frozen? ⟨_, i, none⟩ = false := fz
  have fv' : ∀ i, W5.drew.frozen? ⟨_, i, none⟩ = false := fv
  simp only [List.getElem?_toArray, List.getElem?_cons_zero, List.getElem?_cons_succ] at v0 v1 v2 n0 n1 n2 n0' n1' n2' v0' v1' v2'
  go_region
  have hwz : w.heap.size ≤ w.heap.size + 1 + 1 := by omega
  have hwv : w.heap.size ≤ w.heap.size + 1 + 1 + 1 := by omega
  have q1 : w.heap.size + 1 + 1 ≠ g := by omega
  have q2 : w.heap.size + 1 + 1 + 1 ≠ g := by omega
  have q3 : w.heap.size + 1 + 1 + 1 ≠ w.heap.size + 1 + 1 := by omega
  have q4 : w.heap.size + 1 + 1 ≠ w.heap.size + 1 + 1 + 1 := by omega
  have rZ := setOther (setOther (setOther (set7 hgZ.out (.string nm) (.int .u8 5) (.int .i64 aW) (.int .i64 aR) (.int .i64 aB) (.slice (some ⟨g, 0, none⟩) m m) (.slice (some ⟨b, 0, none⟩) m m)) (p := ⟨w.heap.size + 1 + 1 + 1, 0, none⟩) (v := .int .i64 1) q3) (p := ⟨w.heap.size + 1 + 1 + 1, 1, none⟩) (v := .int .u64 0) q3) (p := ⟨w.heap.size + 1 + 1 + 1, 2, none⟩) (v := .int .u64 1) q3
  have rV := set3 (setOther (setOther (setOther (setOther (setOther (setOther (setOther hgV.out (p := ⟨w.heap.size + 1 + 1, 0, none⟩) (v := .string nm) q4) (p := ⟨w.heap.size + 1 + 1, 1, none⟩) (v := .int .u8 5) q4) (p := ⟨w.heap.size + 1 + 1, 2, none⟩) (v := .int .i64 aW) q4) (p := ⟨w.heap.size + 1 + 1, 3, none⟩) (v := .int .i64 aR) q4) (p := ⟨w.heap.size + 1 + 1, 4, none⟩) (v := .int .i64 aB) q4) (p := ⟨w.heap.size + 1 + 1, 5, none⟩) (v := .slice (some ⟨g, 0, none⟩) m m) q4) (p := ⟨w.heap.size + 1 + 1, 6, none⟩) (v := .slice (some ⟨b, 0, none⟩) m m) q4) (.int .i64 1) (.int .u64 0) (.int .u64 1)
  have rG := setOther (setOther (setOther (setOther (setOther (setOther (setOther (setOther (setOther (setOther hgB.out (p := ⟨w.heap.size + 1 + 1, 0, none⟩) (v := .string nm) q1) (p := ⟨w.heap.size + 1 + 1, 1, none⟩) (v := .int .u8 5) q1) (p := ⟨w.heap.size + 1 + 1, 2, none⟩) (v := .int .i64 aW) q1) (p := ⟨w.heap.size + 1 + 1, 3, none⟩) (v := .int .i64 aR) q1) (p := ⟨w.heap.size + 1 + 1, 4, none⟩) (v := .int .i64 aB) q1) (p := ⟨w.heap.size + 1 + 1, 5, none⟩) (v := .slice (some ⟨g, 0, none⟩) m m) q1) (p := ⟨w.heap.size + 1 + 1, 6, none⟩) (v := .slice (some ⟨b, 0, none⟩) m m) q1) (p := ⟨w.heap.size + 1 + 1 + 1, 0, none⟩) (v := .int .i64 1) q2) (p := ⟨w.heap.size + 1 + 1 + 1, 1, none⟩) (v := .int .u64 0) q2) (p := ⟨w.heap.size + 1 + 1 + 1, 2, none⟩) (v := .int .u64 1) q2
  have rO := ((((((((((Foot.refl (fun i => i = w.heap.size + 1 + 1 ∨ i = w.heap.size + 1 + 1 + 1) W5).setCell (p := ⟨w.heap.size + 1 + 1, 0, none⟩) (.inl (.inl rfl)) (.string nm)).setCell (p := ⟨w.heap.size + 1 + 1, 1, none⟩) (.inl (.inl rfl)) (.int .u8 5)).setCell (p := ⟨w.heap.size + 1 + 1, 2, none⟩) (.inl (.inl rfl)) (.int .i64 aW)).setCell (p := ⟨w.heap.size + 1 + 1, 3, none⟩) (.inl (.inl rfl)) (.int .i64 aR)).setCell (p := ⟨w.heap.size + 1 + 1, 4, none⟩) (.inl (.inl rfl)) (.int .i64 aB)).setCell (p := ⟨w.heap.size + 1 + 1, 5, none⟩) (.inl (.inl rfl)) (.slice (some ⟨g, 0, none⟩) m m)).setCell (p := ⟨w.heap.size + 1 + 1, 6, none⟩) (.inl (.inl rfl)) (.slice (some ⟨b, 0, none⟩) m m)).setCell (p := ⟨w.heap.size + 1 + 1 + 1, 0, none⟩) (.inl (.inr rfl)) (.int .i64 1)).setCell (p := ⟨w.heap.size + 1 + 1 + 1, 1, none⟩) (.inl (.inr rfl)) (.int .u64 0)).setCell (p := ⟨w.heap.size + 1 + 1 + 1, 2, none⟩) (.inl (.inr rfl)) (.int .u64 1) |>.own hgO.out (fun j hj h => by cases hj; rcases h with h | h <;> (have h' : b = _ := h; omega))
  have rB := (((((((((hgB'.out.setCell (p := ⟨w.heap.size + 1 + 1, 0, none⟩) hwz (.string nm)).setCell (p := ⟨w.heap.size + 1 + 1, 1, none⟩) hwz (.int .u8 5)).setCell (p := ⟨w.heap.size + 1 + 1, 2, none⟩) hwz (.int .i64 aW)).setCell (p := ⟨w.heap.size + 1 + 1, 3, none⟩) hwz (.int .i64 aR)).setCell (p := ⟨w.heap.size + 1 + 1, 4, none⟩) hwz (.int .i64 aB)).setCell (p := ⟨w.heap.size + 1 + 1, 5, none⟩) hwz (.slice (some ⟨g, 0, none⟩) m m)).setCell (p := ⟨w.heap.size + 1 + 1, 6, none⟩) hwz (.slice (some ⟨b, 0, none⟩) m m)).setCell (p := ⟨w.heap.size + 1 + 1 + 1, 0, none⟩) hwv (.int .i64 1)).setCell (p := ⟨w.heap.size + 1 + 1 + 1, 1, none⟩) hwv (.int .u64 0)).setCell (p := ⟨w.heap.size + 1 + 1 + 1, 2, none⟩) hwv (.int .u64 1)
  go_wp2
  have rZ' := heap_drew rZ
  have rV' := heap_drew rV
  have rG' := heap_drew rG
  have rO' := own_drew' rO
  have rB' := rB.drew
  clear rZ rV rG rO rB q1 q2 q3 q4 hgB hgP hgV hgZ hgO hgN hgB'
  refine bodyPost_ret (results_cct rfl _ _ (w.heap.size + 1 + 1) (w.heap.size + 1 + 1 + 1) 38 45 _ _ (0, 0) (0, 0) _ _ rfl rZ' Try.underlying38 rfl (by kernel_rfl) rfl rV' Try.underlying45 rfl (by kernel_rfl)) rfl ?_
  refine ⟨g, some ⟨b, 0, none⟩, c', ?_, ?_, ?_, ?_, ?_⟩
  · rfl
  · omega
  · exact rG'
  · exact rO'
  · exact rB'
set_option maxRecDepth 100000 in
set_option maxHeartbeats 3200000 in
theorem Meter_go000 (a : Arr) (ho : a.ok) (hkd : a.kd = 5) (A : Option Addr) (n c : Nat) (B : Option Addr) (m d k : Nat) (hBd : B = none → d = 0) (x'W x'H x'L : Int) (hxx : a.cs.getD k zeroNum = ⟨x'W, x'H, x'L⟩) (last now : Int) (hll : a.ls.getD k 0 = last) (hn0 : 0 ≤ now) (hn1 : now ≤ 9223372036854775807) (hgt : last < now) (hq : ¬ a.Burst < now - last) (mo : Int) (hmo : IntKind.u64.wrap ((now - last) * a.Rate) = mo) (hmo0 : 0 ≤ mo) (hmo1 : mo ≤ 4294836225) (hl : ¬ a.Burst < x'L + mo) (lo : Int) (hlo_ : lo = x'L + mo) (hpos : ¬ 0 < lo) (x : Num) (hxw : x.wf) (hxo : x.ok) (hx0 : x.Hi = 0) (hxk : x.Lo = (k : Int)) (hk : k < n) (w : World) (hR : ReadsNums w A n a.cs) (hS : Reads w .i64 B m a.ls) :
    Calls Try.prog 18 #[.agg (a.vals A n c B m d), x.v, .int .i64 now] w fun e w' => ∃ g B' c', e = .returned (.tuple #[.agg ({ a with cs := a.cs.set k ⟨x'W, x'H, lo⟩, ls := a.ls.set k now }.vals (some ⟨g, 0, none⟩) n n B' m m), .agg #[.int .i64 1, .int .u64 0, .int .u64 0], .int .i64 0]) ∧ w.heap.size ≤ g ∧ w'.heap[g]? = some (.cells (numsV (a.cs.set k ⟨x'W, x'H, lo⟩)).toArray 45 (0, 0)) ∧ w'.ownsRow (g + 1) 3 1 (.slice B' m c') m (nums .i64 (a.ls.set k now)) ∧ Below w.heap.size w w' := by
  obtain ⟨HP, HV, HZ, HA, HBW⟩ := box_meter w (a.vals A n c B m d) #[.int .i64 x.W, .int .u64 x.Hi, .int .u64 x.Lo] zeroVals #[.int .i64 0, .int .u64 0, .int .u64 0] (a.vals A n c B m d) 38 45 38 45 63 _ rfl
  have HC := aside (cell_own' a ho A n c B m d (w.heap.size + 1 + 1 + 1 + 1) k hBd x hxw hxo hx0 hxk hk w _ HBW.out.1 hR hS HP.out (by omega))
  have hkl : k < a.cs.length := by rw [hR.1]; exact hk
  have hsc := ho.scal.2.2.2 hkd
  have hln := ho.len
  have hcell := ho.cells k hkl
  rw [hxx] at hcell
  have hlo := hcell.2.2.2 hkd
  have hlo0 := hcell.1.2.2.1
  have hla0 := ho.last k (by rw [hsc.2.2.2.2]; exact hkl)
  rw [hll] at hla0
  have hml : a.ls.length = m := hS.1
  have hnl : a.cs.length = n := hR.1
  have hmn : m = n := by rw [← hml, ← hnl]; exact hsc.2.2.2.2
  have HGET := aside (numsV_get a.cs k hkl)
  rw [hxx] at HGET
  have HSETA := aside (fun lo => by have := numsV_set2 a.cs k hkl lo; rwa [hxx] at this : ∀ lo, (numsV a.cs).set (k * 3 + 2) (.int .u64 lo) = numsV (a.cs.set k ⟨x'W, x'H, lo⟩))
  have HLL := aside hll
  have HXX := aside hxx
  clear hR hS hxw hxo hxx hcell hll
  obtain ⟨xW, xh, xl⟩ := x
  obtain ⟨nm, kd, aW, aR, aB, cs, ls⟩ := a
  simp only [Num.v, Arr.vals, zeroVals] at *
  subst hx0 hxk hkd hmn
  obtain ⟨r0, r1, b0, b1, _⟩ := hsc
  clear ho
  go_enter Try.func18, Try.ntmps18
  go_wp2_with fail
  refine Calls.mono HC.out ?_
  rintro e w1 ⟨g, B', rfl, hg0, hg1, hp1, ⟨c', hO⟩, hF1⟩
  obtain ⟨hbw, hsz⟩ := HBW.out
  replace HV := aside (hF1.blk HV.out (by omega))
  replace HZ := aside (hF1.blk HZ.out (by omega))
  replace HA := aside (hF1.blk HA.out (by omega))
  have HB := aside (hbw.trans (hF1.below (fun i hi => by omega) hbw.size))
  obtain ⟨b, c'', hB', hb0, hb1, hb2, hb3⟩ := own_some hO (by omega)
  cases hB'
  have HP := aside hp1
  have HG := aside hg1
  have HO := aside hO
  have hnow : decide (now < 0) = false := decide_eq_false (by omega)
  have hk0 : (0 : Int) ≤ (k : Int) := by omega
  have hk1 : (k : Int) < (m : Int) := by omega
  have l0 : w1.cell? ⟨b, k, none⟩ = some (.int .i64 last) := by rw [own_at hO k hk, HLL.out]
  obtain ⟨⟨p0, p1, p2⟩, p3, p4, p5, p6⟩ := cells7' HP
  obtain ⟨⟨a0, a1, a2⟩, a3, a4, a5, a6⟩ := cells7' HA
  have hd : decide (last < now) = true := decide_eq_true (by omega)
  have hd0 := eq_true (by omega : last < now)
  clear hp1 hg1 hO hF1 HC
  have hqd : decide (aB < now - last) = false := decide_eq_false (by omega)
  have hqt := eq_false (by omega : ¬ aB < now - last)
  have hld : decide (aB < x'L + mo) = false := decide_eq_false (by omega)
  have hlt := eq_false (by omega : ¬ aB < x'L + mo)
  go_wp2_with fail
  go_region
  have g2 : w1.cell? ⟨g, k * 3 + 2, none⟩ = some (.int .u64 x'L) := (cellOf HG.out _).trans (by rw [List.getElem?_toArray]; exact HGET.out.2.2)
  have g2' : w1.drew.cell? ⟨g, k * 3 + 2, none⟩ = some (.int .u64 x'L) := g2
  have fg := frozenOf HG.out
  have fg' : ∀ i, w1.drew.frozen? ⟨g, i, none⟩ = false := fg
  have l0' : w1.drew.cell? ⟨b, k, none⟩ = some (.int .i64 last) := l0
  have fb : w1.frozen? ⟨b, k, none⟩ = false := own_frozen HO.out k
  have fb' : w1.drew.frozen? ⟨b, k, none⟩ = false := fb
  have a4' : w1.drew.cell? ⟨w.heap.size, 4, none⟩ = some (.int .i64 aB) := a4
  have hbg : ¬ b = g := by omega
  have hgb : ¬ g = b := by omega
  go_wp2_with fail
  go_region
  clear g2 g2' fg fg' l0 l0' fb fb' a4' a0 a1 a2 a3 a4 a5 a6 p0 p1 p2 p3 p4 p5 p6 hqd hqt hld hlt
  subst hlo_
  have n1 : g ≠ w.heap.size + 1 + 1 + 1 + 1 := by omega
  have n2 : b ≠ w.heap.size + 1 + 1 + 1 + 1 := by omega
  have n3 : g ≠ w.heap.size + 1 + 1 + 1 := by omega
  have n4 : b ≠ w.heap.size + 1 + 1 + 1 := by omega
  have n5 : g ≠ w.heap.size + 1 + 1 := by omega
  have n6 : b ≠ w.heap.size + 1 + 1 := by omega
  have mG := setOther (setCell_heap HG.out (k * 3 + 2) (.int .u64 (x'L + mo))) (p := ⟨b, k, none⟩) (v := .int .i64 now) hbg
  rw [List.setIfInBounds_toArray, HSETA.out] at mG
  have mO := own_put (((Foot.refl (fun i => i = g) w1).setCell (p := ⟨g, k * 3 + 2, none⟩) (.inl rfl) (.int .u64 (x'L + mo))).own HO.out (fun j hj h => by cases hj; exact hbg h)) k now
  have mP := setOther (setOther HP.out (p := ⟨g, k * 3 + 2, none⟩) (v := .int .u64 (x'L + mo)) n1) (p := ⟨b, k, none⟩) (v := .int .i64 now) n2
  have mV := setOther (setOther HV.out (p := ⟨g, k * 3 + 2, none⟩) (v := .int .u64 (x'L + mo)) n3) (p := ⟨b, k, none⟩) (v := .int .i64 now) n4
  have mZ := setOther (setOther HZ.out (p := ⟨g, k * 3 + 2, none⟩) (v := .int .u64 (x'L + mo)) n5) (p := ⟨b, k, none⟩) (v := .int .i64 now) n6
  have mB := (HB.out.setCell (p := ⟨g, k * 3 + 2, none⟩) (show w.heap.size ≤ g by omega) (.int .u64 (x'L + mo))).setCell (p := ⟨b, k, none⟩) (show w.heap.size ≤ b by omega) (.int .i64 now)
  have hU1 : (((w1.setCell ⟨g, k * 3 + 2, none⟩ (.int .u64 (x'L + mo))).setCell ⟨b, k, none⟩ (.int .i64 now)).drew.drew).heap = ((w1.setCell ⟨g, k * 3 + 2, none⟩ (.int .u64 (x'L + mo))).setCell ⟨b, k, none⟩ (.int .i64 now)).heap := rfl
  replace HG := aside ((congrArg (fun (h : Array Obj) => h[g]?) hU1).trans mG)
  replace HP := aside ((congrArg (fun (h : Array Obj) => h[w.heap.size + 1 + 1 + 1 + 1]?) hU1).trans mP)
  replace HV := aside ((congrArg (fun (h : Array Obj) => h[w.heap.size + 1 + 1 + 1]?) hU1).trans mV)
  replace HZ := aside ((congrArg (fun (h : Array Obj) => h[w.heap.size + 1 + 1]?) hU1).trans mZ)
  replace HO := aside (show (((w1.setCell ⟨g, k * 3 + 2, none⟩ (.int .u64 (x'L + mo))).setCell ⟨b, k, none⟩ (.int .i64 now)).drew.drew).ownsRow (g + 1) 3 1 (.slice (some ⟨b, 0, none⟩) m c') m (nums .i64 (ls.set k now)) from mO)
  replace HB := aside mB.drew.drew
  clear mG mO mP mV mZ mB hU1 HA n1 n2 n3 n4 n5 n6
  generalize (((w1.setCell ⟨g, k * 3 + 2, none⟩ (.int .u64 (x'L + mo))).setCell ⟨b, k, none⟩ (.int .i64 now)).drew.drew) = U at *
  have HSETB := aside (numsV_set2 (cs.set k ⟨x'W, x'H, (x'L + mo)⟩) k (by simpa using hkl))
  have HSETD := aside (fun lo2 => numsV_set3 cs k hkl x'W x'H (x'L + mo) lo2)
  have HGT2 := aside (show (numsV (cs.set k ⟨x'W, x'H, (x'L + mo)⟩))[k * 3 + 2]? = some (.int .u64 (x'L + mo)) by rw [← HSETA.out, List.getElem?_set_self (by rw [numsV_length]; omega)])
  have HSETC := aside (show (numsV (cs.set k ⟨x'W, x'H, (x'L + mo)⟩)).set (k * 3 + 2) (.int .u64 ((x'L + mo) - 1)) = numsV (cs.set k ⟨x'W, x'H, (x'L + mo) - 1⟩) from HSETD.out _)
  have hgU : g < U.heap.size := (Array.getElem?_eq_some_iff.1 HG.out).1
  have hpU : w.heap.size + 1 + 1 + 1 + 1 < U.heap.size := (Array.getElem?_eq_some_iff.1 HP.out).1
  have hbU := (Below.refl U.heap.size U).alloc (Nat.le_refl _) (.cells #[.int .i64 1, .int .u64 0, .int .u64 0] 45)
  have HBX := aside (heap_alloc_new U (.cells #[.int .i64 1, .int .u64 0, .int .u64 0] 45))
  have MG := aside (heapOld U (.cells #[.int .i64 1, .int .u64 0, .int .u64 0] 45) _ _ HG.out)
  have MP := aside (heapOld U (.cells #[.int .i64 1, .int .u64 0, .int .u64 0] 45) _ _ HP.out)
  have MV := aside (heapOld U (.cells #[.int .i64 1, .int .u64 0, .int .u64 0] 45) _ _ HV.out)
  have MZ := aside (heapOld U (.cells #[.int .i64 1, .int .u64 0, .int .u64 0] 45) _ _ HZ.out)
  have MO := aside (own_keep HO.out hbU)
  have MB := aside (HB.out.trans (hbU.mono HB.out.size))
  have y2 : (U.alloc (.cells #[.int .i64 1, .int .u64 0, .int .u64 0] 45)).cell? ⟨g, k * 3 + 2, none⟩ = some (.int .u64 (x'L + mo)) := (cellOf MG.out _).trans (by rw [List.getElem?_toArray]; exact HGT2.out)
  have fy := frozenOf MG.out
  have fx := frozenOf HBX.out
  have x0 := cellOf HBX.out 0
  have x1 := cellOf HBX.out 1
  have x2 := cellOf HBX.out 2
  simp only [List.getElem?_toArray, List.getElem?_cons_zero, List.getElem?_cons_succ] at x0 x1 x2
  have hgx : ¬ g = U.heap.size := by omega
  have hxg : ¬ U.heap.size = g := by omega
  have hlp : decide (0 < (x'L + mo)) = false := decide_eq_false (by omega)
  have hlq := eq_false (by omega : ¬ 0 < (x'L + mo))
  clear hbU
  go_wp2_with fail
  clear y2 fx fy x0 x1 x2 HGT2
  have hgB := MG
  have hgP := MP
  have hgV := MV
  have hgZ := MZ
  have hgO := MO
  have hgN := HBX
  have hgB' := MB
  generalize U.alloc (.cells #[.int .i64 1, .int .u64 0, .int .u64 0] 45) = W5 at *
  clear MG MP MV MZ MO MB HBX
  obtain ⟨⟨p0, p1, p2⟩, p3, p4, p5, p6⟩ := cells7' (V := W5.drew) hgP
  obtain ⟨⟨z0, z1, z2⟩, z3, z4, z5, z6⟩ := cells7' (V := W5.drew) hgZ
  obtain ⟨⟨z0', z1', z2'⟩, z3', z4', z5', z6'⟩ := cells7' hgZ
  have v0 := cellOf hgV.out 0
  have v1 := cellOf hgV.out 1
  have v2 := cellOf hgV.out 2
  have n0 := cellOf (w := W5.drew) hgN.out 0
  have n1 := cellOf (w := W5.drew) hgN.out 1
  have n2 := cellOf (w := W5.drew) hgN.out 2
  have n0' := cellOf hgN.out 0
  have n1' := cellOf hgN.out 1
  have n2' := cellOf hgN.out 2
  have v0' := cellOf (w := W5.drew) hgV.out 0
  have v1' := cellOf (w := W5.drew) hgV.out 1
  have v2' := cellOf (w := W5.drew) hgV.out 2
  obtain ⟨⟨p0', p1', p2'⟩, p3', p4', p5', p6'⟩ := cells7' hgP
  have fz := frozenOf hgZ.out
  have fv := frozenOf hgV.out
  have fz' : ∀ i, W5.drew.frozen? ⟨_, i, none⟩ = false := fz
  have fv' : ∀ i, W5.drew.frozen? ⟨_, i, none⟩ = false := fv
  simp only [List.getElem?_toArray, List.getElem?_cons_zero, List.getElem?_cons_succ] at v0 v1 v2 n0 n1 n2 n0' n1' n2' v0' v1' v2'
  go_region
  have hwz : w.heap.size ≤ w.heap.size + 1 + 1 := by omega
  have hwv : w.heap.size ≤ w.heap.size + 1 + 1 + 1 := by omega
  have q1 : w.heap.size + 1 + 1 ≠ g := by omega
  have q2 : w.heap.size + 1 + 1 + 1 ≠ g := by omega
  have q3 : w.heap.size + 1 + 1 + 1 ≠ w.heap.size + 1 + 1 := by omega
  have q4 : w.heap.size + 1 + 1 ≠ w.heap.size + 1 + 1 + 1 := by omega
  have rZ := setOther (setOther (setOther (set7 hgZ.out (.string nm) (.int .u8 5) (.int .i64 aW) (.int .i64 aR) (.int .i64 aB) (.slice (some ⟨g, 0, none⟩) m m) (.slice (some ⟨b, 0, none⟩) m m)) (p := ⟨w.heap.size + 1 + 1 + 1, 0, none⟩) (v := .int .i64 1) q3) (p := ⟨w.heap.size + 1 + 1 + 1, 1, none⟩) (v := .int .u64 0) q3) (p := ⟨w.heap.size + 1 + 1 + 1, 2, none⟩) (v := .int .u64 0) q3
  have rV := set3 (setOther (setOther (setOther (setOther (setOther (setOther (setOther hgV.out (p := ⟨w.heap.size + 1 + 1, 0, none⟩) (v := .string nm) q4) (p := ⟨w.heap.size + 1 + 1, 1, none⟩) (v := .int .u8 5) q4) (p := ⟨w.heap.size + 1 + 1, 2, none⟩) (v := .int .i64 aW) q4) (p := ⟨w.heap.size + 1 + 1, 3, none⟩) (v := .int .i64 aR) q4) (p := ⟨w.heap.size + 1 + 1, 4, none⟩) (v := .int .i64 aB) q4) (p := ⟨w.heap.size + 1 + 1, 5, none⟩) (v := .slice (some ⟨g, 0, none⟩) m m) q4) (p := ⟨w.heap.size + 1 + 1, 6, none⟩) (v := .slice (some ⟨b, 0, none⟩) m m) q4) (.int .i64 1) (.int .u64 0) (.int .u64 0)
  have rG := setOther (setOther (setOther (setOther (setOther (setOther (setOther (setOther (setOther (setOther hgB.out (p := ⟨w.heap.size + 1 + 1, 0, none⟩) (v := .string nm) q1) (p := ⟨w.heap.size + 1 + 1, 1, none⟩) (v := .int .u8 5) q1) (p := ⟨w.heap.size + 1 + 1, 2, none⟩) (v := .int .i64 aW) q1) (p := ⟨w.heap.size + 1 + 1, 3, none⟩) (v := .int .i64 aR) q1) (p := ⟨w.heap.size + 1 + 1, 4, none⟩) (v := .int .i64 aB) q1) (p := ⟨w.heap.size + 1 + 1, 5, none⟩) (v := .slice (some ⟨g, 0, none⟩) m m) q1) (p := ⟨w.heap.size + 1 + 1, 6, none⟩) (v := .slice (some ⟨b, 0, none⟩) m m) q1) (p := ⟨w.heap.size + 1 + 1 + 1, 0, none⟩) (v := .int .i64 1) q2) (p := ⟨w.heap.size + 1 + 1 + 1, 1, none⟩) (v := .int .u64 0) q2) (p := ⟨w.heap.size + 1 + 1 + 1, 2, none⟩) (v := .int .u64 0) q2
  have rO := ((((((((((Foot.refl (fun i => i = w.heap.size + 1 + 1 ∨ i = w.heap.size + 1 + 1 + 1) W5).setCell (p := ⟨w.heap.size + 1 + 1, 0, none⟩) (.inl (.inl rfl)) (.string nm)).setCell (p := ⟨w.heap.size + 1 + 1, 1, none⟩) (.inl (.inl rfl)) (.int .u8 5)).setCell (p := ⟨w.heap.size + 1 + 1, 2, none⟩) (.inl (.inl rfl)) (.int .i64 aW)).setCell (p := ⟨w.heap.size + 1 + 1, 3, none⟩) (.inl (.inl rfl)) (.int .i64 aR)).setCell (p := ⟨w.heap.size + 1 + 1, 4, none⟩) (.inl (.inl rfl)) (.int .i64 aB)).setCell (p := ⟨w.heap.size + 1 + 1, 5, none⟩) (.inl (.inl rfl)) (.slice (some ⟨g, 0, none⟩) m m)).setCell (p := ⟨w.heap.size + 1 + 1, 6, none⟩) (.inl (.inl rfl)) (.slice (some ⟨b, 0, none⟩) m m)).setCell (p := ⟨w.heap.size + 1 + 1 + 1, 0, none⟩) (.inl (.inr rfl)) (.int .i64 1)).setCell (p := ⟨w.heap.size + 1 + 1 + 1, 1, none⟩) (.inl (.inr rfl)) (.int .u64 0)).setCell (p := ⟨w.heap.size + 1 + 1 + 1, 2, none⟩) (.inl (.inr rfl)) (.int .u64 0) |>.own hgO.out (fun j hj h => by cases hj; rcases h with h | h <;> (have h' : b = _ := h; omega))
  have rB := (((((((((hgB'.out.setCell (p := ⟨w.heap.size + 1 + 1, 0, none⟩) hwz (.string nm)).setCell (p := ⟨w.heap.size + 1 + 1, 1, none⟩) hwz (.int .u8 5)).setCell (p := ⟨w.heap.size + 1 + 1, 2, none⟩) hwz (.int .i64 aW)).setCell (p := ⟨w.heap.size + 1 + 1, 3, none⟩) hwz (.int .i64 aR)).setCell (p := ⟨w.heap.size + 1 + 1, 4, none⟩) hwz (.int .i64 aB)).setCell (p := ⟨w.heap.size + 1 + 1, 5, none⟩) hwz (.slice (some ⟨g, 0, none⟩) m m)).setCell (p := ⟨w.heap.size + 1 + 1, 6, none⟩) hwz (.slice (some ⟨b, 0, none⟩) m m)).setCell (p := ⟨w.heap.size + 1 + 1 + 1, 0, none⟩) hwv (.int .i64 1)).setCell (p := ⟨w.heap.size + 1 + 1 + 1, 1, none⟩) hwv (.int .u64 0)).setCell (p := ⟨w.heap.size + 1 + 1 + 1, 2, none⟩) hwv (.int .u64 0)
  go_wp2
  have rZ' := heap_drew rZ
  have rV' := heap_drew rV
  have rG' := heap_drew rG
  have rO' := own_drew' rO
  have rB' := rB.drew
  clear rZ rV rG rO rB q1 q2 q3 q4 hgB hgP hgV hgZ hgO hgN hgB'
  refine bodyPost_ret (results_cct rfl _ _ (w.heap.size + 1 + 1) (w.heap.size + 1 + 1 + 1) 38 45 _ _ (0, 0) (0, 0) _ _ rfl rZ' Try.underlying38 rfl (by kernel_rfl) rfl rV' Try.underlying45 rfl (by kernel_rfl)) rfl ?_
  refine ⟨g, some ⟨b, 0, none⟩, c', ?_, ?_, ?_, ?_, ?_⟩
  · rfl
  · omega
  · exact rG'
  · exact rO'
  · exact rB'
set_option maxRecDepth 100000 in
set_option maxHeartbeats 3200000 in
theorem Meter_go011 (a : Arr) (ho : a.ok) (hkd : a.kd = 5) (A : Option Addr) (n c : Nat) (B : Option Addr) (m d k : Nat) (hBd : B = none → d = 0) (x'W x'H x'L : Int) (hxx : a.cs.getD k zeroNum = ⟨x'W, x'H, x'L⟩) (last now : Int) (hll : a.ls.getD k 0 = last) (hn0 : 0 ≤ now) (hn1 : now ≤ 9223372036854775807) (hgt : last < now) (hq : ¬ a.Burst < now - last) (mo : Int) (hmo : IntKind.u64.wrap ((now - last) * a.Rate) = mo) (hmo0 : 0 ≤ mo) (hmo1 : mo ≤ 4294836225) (hl : a.Burst < x'L + mo) (lo : Int) (hlo_ : lo = a.Burst) (hpos : 0 < lo) (x : Num) (hxw : x.wf) (hxo : x.ok) (hx0 : x.Hi = 0) (hxk : x.Lo = (k : Int)) (hk : k < n) (w : World) (hR : ReadsNums w A n a.cs) (hS : Reads w .i64 B m a.ls) :
    Calls Try.prog 18 #[.agg (a.vals A n c B m d), x.v, .int .i64 now] w fun e w' => ∃ g B' c', e = .returned (.tuple #[.agg ({ a with cs := a.cs.set k ⟨x'W, x'H, (lo - 1)⟩, ls := a.ls.set k now }.vals (some ⟨g, 0, none⟩) n n B' m m), .agg #[.int .i64 1, .int .u64 0, .int .u64 1], .int .i64 0]) ∧ w.heap.size ≤ g ∧ w'.heap[g]? = some (.cells (numsV (a.cs.set k ⟨x'W, x'H, (lo - 1)⟩)).toArray 45 (0, 0)) ∧ w'.ownsRow (g + 1) 3 1 (.slice B' m c') m (nums .i64 (a.ls.set k now)) ∧ Below w.heap.size w w' := by
  obtain ⟨HP, HV, HZ, HA, HBW⟩ := box_meter w (a.vals A n c B m d) #[.int .i64 x.W, .int .u64 x.Hi, .int .u64 x.Lo] zeroVals #[.int .i64 0, .int .u64 0, .int .u64 0] (a.vals A n c B m d) 38 45 38 45 63 _ rfl
  have HC := aside (cell_own' a ho A n c B m d (w.heap.size + 1 + 1 + 1 + 1) k hBd x hxw hxo hx0 hxk hk w _ HBW.out.1 hR hS HP.out (by omega))
  have hkl : k < a.cs.length := by rw [hR.1]; exact hk
  have hsc := ho.scal.2.2.2 hkd
  have hln := ho.len
  have hcell := ho.cells k hkl
  rw [hxx] at hcell
  have hlo := hcell.2.2.2 hkd
  have hlo0 := hcell.1.2.2.1
  have hla0 := ho.last k (by rw [hsc.2.2.2.2]; exact hkl)
  rw [hll] at hla0
  have hml : a.ls.length = m := hS.1
  have hnl : a.cs.length = n := hR.1
  have hmn : m = n := by rw [← hml, ← hnl]; exact hsc.2.2.2.2
  have HGET := aside (numsV_get a.cs k hkl)
  rw [hxx] at HGET
  have HSETA := aside (fun lo => by have := numsV_set2 a.cs k hkl lo; rwa [hxx] at this : ∀ lo, (numsV a.cs).set (k * 3 + 2) (.int .u64 lo) = numsV (a.cs.set k ⟨x'W, x'H, lo⟩))
  have HLL := aside hll
  have HXX := aside hxx
  clear hR hS hxw hxo hxx hcell hll
  obtain ⟨xW, xh, xl⟩ := x
  obtain ⟨nm, kd, aW, aR, aB, cs, ls⟩ := a
  simp only [Num.v, Arr.vals, zeroVals] at *
  subst hx0 hxk hkd hmn
  obtain ⟨r0, r1, b0, b1, _⟩ := hsc
  clear ho
  go_enter Try.func18, Try.ntmps18
  go_wp2_with fail
  refine Calls.mono HC.out ?_
  rintro e w1 ⟨g, B', rfl, hg0, hg1, hp1, ⟨c', hO⟩, hF1⟩
  obtain ⟨hbw, hsz⟩ := HBW.out
  replace HV := aside (hF1.blk HV.out (by omega))
  replace HZ := aside (hF1.blk HZ.out (by omega))
  replace HA := aside (hF1.blk HA.out (by omega))
  have HB := aside (hbw.trans (hF1.below (fun i hi => by omega) hbw.size))
  obtain ⟨b, c'', hB', hb0, hb1, hb2, hb3⟩ := own_some hO (by omega)
  cases hB'
  have HP := aside hp1
  have HG := aside hg1
  have HO := aside hO
  have hnow : decide (now < 0) = false := decide_eq_false (by omega)
  have hk0 : (0 : Int) ≤ (k : Int) := by omega
  have hk1 : (k : Int) < (m : Int) := by omega
  have l0 : w1.cell? ⟨b, k, none⟩ = some (.int .i64 last) := by rw [own_at hO k hk, HLL.out]
  obtain ⟨⟨p0, p1, p2⟩, p3, p4, p5, p6⟩ := cells7' HP
  obtain ⟨⟨a0, a1, a2⟩, a3, a4, a5, a6⟩ := cells7' HA
  have hd : decide (last < now) = true := decide_eq_true (by omega)
  have hd0 := eq_true (by omega : last < now)
  clear hp1 hg1 hO hF1 HC
  have hqd : decide (aB < now - last) = false := decide_eq_false (by omega)
  have hqt := eq_false (by omega : ¬ aB < now - last)
  have hld : decide (aB < x'L + mo) = true := decide_eq_true (by omega)
  have hlt := eq_true (by omega : aB < x'L + mo)
  go_wp2_with fail
  go_region
  have g2 : w1.cell? ⟨g, k * 3 + 2, none⟩ = some (.int .u64 x'L) := (cellOf HG.out _).trans (by rw [List.getElem?_toArray]; exact HGET.out.2.2)
  have g2' : w1.drew.cell? ⟨g, k * 3 + 2, none⟩ = some (.int .u64 x'L) := g2
  have fg := frozenOf HG.out
  have fg' : ∀ i, w1.drew.frozen? ⟨g, i, none⟩ = false := fg
  have l0' : w1.drew.cell? ⟨b, k, none⟩ = some (.int .i64 last) := l0
  have fb : w1.frozen? ⟨b, k, none⟩ = false := own_frozen HO.out k
  have fb' : w1.drew.frozen? ⟨b, k, none⟩ = false := fb
  have a4' : w1.drew.cell? ⟨w.heap.size, 4, none⟩ = some (.int .i64 aB) := a4
  have hbg : ¬ b = g := by omega
  have hgb : ¬ g = b := by omega
  go_wp2_with fail
  go_region
  clear g2 g2' fg fg' l0 l0' fb fb' a4' a0 a1 a2 a3 a4 a5 a6 p0 p1 p2 p3 p4 p5 p6 hqd hqt hld hlt
  have hlo2 := hlo_.symm
  subst hlo2
  have n1 : g ≠ w.heap.size + 1 + 1 + 1 + 1 := by omega
  have n2 : b ≠ w.heap.size + 1 + 1 + 1 + 1 := by omega
  have n3 : g ≠ w.heap.size + 1 + 1 + 1 := by omega
  have n4 : b ≠ w.heap.size + 1 + 1 + 1 := by omega
  have n5 : g ≠ w.heap.size + 1 + 1 := by omega
  have n6 : b ≠ w.heap.size + 1 + 1 := by omega
  have mG := setOther (setCell_heap HG.out (k * 3 + 2) (.int .u64 aB)) (p := ⟨b, k, none⟩) (v := .int .i64 now) hbg
  rw [List.setIfInBounds_toArray, HSETA.out] at mG
  have mO := own_put (((Foot.refl (fun i => i = g) w1).setCell (p := ⟨g, k * 3 + 2, none⟩) (.inl rfl) (.int .u64 aB)).own HO.out (fun j hj h => by cases hj; exact hbg h)) k now
  have mP := setOther (setOther HP.out (p := ⟨g, k * 3 + 2, none⟩) (v := .int .u64 aB) n1) (p := ⟨b, k, none⟩) (v := .int .i64 now) n2
  have mV := setOther (setOther HV.out (p := ⟨g, k * 3 + 2, none⟩) (v := .int .u64 aB) n3) (p := ⟨b, k, none⟩) (v := .int .i64 now) n4
  have mZ := setOther (setOther HZ.out (p := ⟨g, k * 3 + 2, none⟩) (v := .int .u64 aB) n5) (p := ⟨b, k, none⟩) (v := .int .i64 now) n6
  have mB := (HB.out.setCell (p := ⟨g, k * 3 + 2, none⟩) (show w.heap.size ≤ g by omega) (.int .u64 aB)).setCell (p := ⟨b, k, none⟩) (show w.heap.size ≤ b by omega) (.int .i64 now)
  have hU1 : (((w1.setCell ⟨g, k * 3 + 2, none⟩ (.int .u64 aB)).setCell ⟨b, k, none⟩ (.int .i64 now)).drew.drew).heap = ((w1.setCell ⟨g, k * 3 + 2, none⟩ (.int .u64 aB)).setCell ⟨b, k, none⟩ (.int .i64 now)).heap := rfl
  replace HG := aside ((congrArg (fun (h : Array Obj) => h[g]?) hU1).trans mG)
  replace HP := aside ((congrArg (fun (h : Array Obj) => h[w.heap.size + 1 + 1 + 1 + 1]?) hU1).trans mP)
  replace HV := aside ((congrArg (fun (h : Array Obj) => h[w.heap.size + 1 + 1 + 1]?) hU1).trans mV)
  replace HZ := aside ((congrArg (fun (h : Array Obj) => h[w.heap.size + 1 + 1]?) hU1).trans mZ)
  replace HO := aside (show (((w1.setCell ⟨g, k * 3 + 2, none⟩ (.int .u64 aB)).setCell ⟨b, k, none⟩ (.int .i64 now)).drew.drew).ownsRow (g + 1) 3 1 (.slice (some ⟨b, 0, none⟩) m c') m (nums .i64 (ls.set k now)) from mO)
  replace HB := aside mB.drew.drew
  clear mG mO mP mV mZ mB hU1 HA n1 n2 n3 n4 n5 n6
  generalize (((w1.setCell ⟨g, k * 3 + 2, none⟩ (.int .u64 aB)).setCell ⟨b, k, none⟩ (.int .i64 now)).drew.drew) = U at *
  have HSETB := aside (numsV_set2 (cs.set k ⟨x'W, x'H, aB⟩) k (by simpa using hkl))
  have HSETD := aside (fun lo2 => numsV_set3 cs k hkl x'W x'H aB lo2)
  have HGT2 := aside (show (numsV (cs.set k ⟨x'W, x'H, aB⟩))[k * 3 + 2]? = some (.int .u64 aB) by rw [← HSETA.out, List.getElem?_set_self (by rw [numsV_length]; omega)])
  have HSETC := aside (show (numsV (cs.set k ⟨x'W, x'H, aB⟩)).set (k * 3 + 2) (.int .u64 (aB - 1)) = numsV (cs.set k ⟨x'W, x'H, aB - 1⟩) from HSETD.out _)
  have hgU : g < U.heap.size := (Array.getElem?_eq_some_iff.1 HG.out).1
  have hpU : w.heap.size + 1 + 1 + 1 + 1 < U.heap.size := (Array.getElem?_eq_some_iff.1 HP.out).1
  have hbU := (Below.refl U.heap.size U).alloc (Nat.le_refl _) (.cells #[.int .i64 1, .int .u64 0, .int .u64 0] 45)
  have HBX := aside (heap_alloc_new U (.cells #[.int .i64 1, .int .u64 0, .int .u64 0] 45))
  have MG := aside (heapOld U (.cells #[.int .i64 1, .int .u64 0, .int .u64 0] 45) _ _ HG.out)
  have MP := aside (heapOld U (.cells #[.int .i64 1, .int .u64 0, .int .u64 0] 45) _ _ HP.out)
  have MV := aside (heapOld U (.cells #[.int .i64 1, .int .u64 0, .int .u64 0] 45) _ _ HV.out)
  have MZ := aside (heapOld U (.cells #[.int .i64 1, .int .u64 0, .int .u64 0] 45) _ _ HZ.out)
  have MO := aside (own_keep HO.out hbU)
  have MB := aside (HB.out.trans (hbU.mono HB.out.size))
  have y2 : (U.alloc (.cells #[.int .i64 1, .int .u64 0, .int .u64 0] 45)).cell? ⟨g, k * 3 + 2, none⟩ = some (.int .u64 aB) := (cellOf MG.out _).trans (by rw [List.getElem?_toArray]; exact HGT2.out)
  have fy := frozenOf MG.out
  have fx := frozenOf HBX.out
  have x0 := cellOf HBX.out 0
  have x1 := cellOf HBX.out 1
  have x2 := cellOf HBX.out 2
  simp only [List.getElem?_toArray, List.getElem?_cons_zero, List.getElem?_cons_succ] at x0 x1 x2
  have hgx : ¬ g = U.heap.size := by omega
  have hxg : ¬ U.heap.size = g := by omega
  have hlp : decide (0 < aB) = true := decide_eq_true (by omega)
  have hlq := eq_true (by omega : 0 < aB)
  clear hbU
  go_wp2_with fail
  clear y2 fx fy x0 x1 x2 HGT2
  have hgB : Aside (((U.setCell ⟨g, k * 3 + 2, none⟩ (.int .u64 (aB - 1))).alloc (.cells #[.int .i64 1, .int .u64 0, .int .u64 1] 45)).heap[g]? = some (.cells (numsV (cs.set k ⟨x'W, x'H, aB - 1⟩)).toArray 45 (0, 0))) := by
    have h := setCell_heap HG.out (k * 3 + 2) (.int .u64 (aB - 1))
    rw [List.setIfInBounds_toArray, HSETC.out] at h
    exact heapOld _ _ _ _ h
  have hgP := aside (heapOld _ (.cells #[.int .i64 1, .int .u64 0, .int .u64 1] 45) _ _ (setOther HP.out (p := ⟨g, k * 3 + 2, none⟩) (v := .int .u64 (aB - 1)) (show g ≠ w.heap.size + 1 + 1 + 1 + 1 by omega)))
  have hgV := aside (heapOld _ (.cells #[.int .i64 1, .int .u64 0, .int .u64 1] 45) _ _ (setOther HV.out (p := ⟨g, k * 3 + 2, none⟩) (v := .int .u64 (aB - 1)) (show g ≠ w.heap.size + 1 + 1 + 1 by omega)))
  have hgZ := aside (heapOld _ (.cells #[.int .i64 1, .int .u64 0, .int .u64 1] 45) _ _ (setOther HZ.out (p := ⟨g, k * 3 + 2, none⟩) (v := .int .u64 (aB - 1)) (show g ≠ w.heap.size + 1 + 1 by omega)))
  have hgO := aside (own_keep (((Foot.refl (fun i => i = g) U).setCell (p := ⟨g, k * 3 + 2, none⟩) (.inl rfl) (.int .u64 (aB - 1))).own HO.out (fun j hj h => by cases hj; exact hbg h)) ((Below.refl _ _).alloc (Nat.le_refl _) (.cells #[.int .i64 1, .int .u64 0, .int .u64 1] 45)))
  have hgN := aside (heapLit (U.setCell ⟨g, k * 3 + 2, none⟩ (.int .u64 (aB - 1))) #[.int .i64 1, .int .u64 0, .int .u64 1] 45 U.heap.size (by simp [World.setCell]))
  have hgB' := aside ((HB.out.setCell (p := ⟨g, k * 3 + 2, none⟩) (show w.heap.size ≤ g by omega) (.int .u64 (aB - 1))).alloc (HB.out.setCell (p := ⟨g, k * 3 + 2, none⟩) (show w.heap.size ≤ g by omega) (.int .u64 (aB - 1))).size (.cells #[.int .i64 1, .int .u64 0, .int .u64 1] 45))
  generalize (U.setCell ⟨g, k * 3 + 2, none⟩ (.int .u64 (aB - 1))).alloc (.cells #[.int .i64 1, .int .u64 0, .int .u64 1] 45) = W5 at *
  clear MG MP MV MZ MO MB HBX
  obtain ⟨⟨p0, p1, p2⟩, p3, p4, p5, p6⟩ := cells7' (V := W5.drew) hgP
  obtain ⟨⟨z0, z1, z2⟩, z3, z4, z5, z6⟩ := cells7' (V := W5.drew) hgZ
  obtain ⟨⟨z0', z1', z2'⟩, z3', z4', z5', z6'⟩ := cells7' hgZ
  have v0 := cellOf hgV.out 0
  have v1 := cellOf hgV.out 1
  have v2 := cellOf hgV.out 2
  have n0 := cellOf (w := W5.drew) hgN.out 0
  have n1 := cellOf (w := W5.drew) hgN.out 1
  have n2 := cellOf (w := W5.drew) hgN.out 2
  have n0' := cellOf hgN.out 0
  have n1' := cellOf hgN.out 1
  have n2' := cellOf hgN.out 2
  have v0' := cellOf (w := W5.drew) hgV.out 0
  have v1' := cellOf (w := W5.drew) hgV.out 1
  have v2' := cellOf (w := W5.drew) hgV.out 2
  obtain ⟨⟨p0', p1', p2'⟩, p3', p4', p5', p6'⟩ := cells7' hgP
  have fz := frozenOf hgZ.out
  have fv := frozenOf hgV.out
  have fz' : ∀ i, W5.drew.frozen? ⟨_, i, none⟩ = false := fz
  have fv' : ∀ i, W5.drew.frozen? ⟨_, i, none⟩ = false := fv
  simp only [List.getElem?_toArray, List.getElem?_cons_zero, List.getElem?_cons_succ] at v0 v1 v2 n0 n1 n2 n0' n1' n2' v0' v1' v2'
  go_region
  have hwz : w.heap.size ≤ w.heap.size + 1 + 1 := by omega
  have hwv : w.heap.size ≤ w.heap.size + 1 + 1 + 1 := by omega
  have q1 : w.heap.size + 1 + 1 ≠ g := by omega
  have q2 : w.heap.size + 1 + 1 + 1 ≠ g := by omega
  have q3 : w.heap.size + 1 + 1 + 1 ≠ w.heap.size + 1 + 1 := by omega
  have q4 : w.heap.size + 1 + 1 ≠ w.heap.size + 1 + 1 + 1 := by omega
  have rZ := setOther (setOther (setOther (set7 hgZ.out (.string nm) (.int .u8 5) (.int .i64 aW) (.int .i64 aR) (.int .i64 aB) (.slice (some ⟨g, 0, none⟩) m m) (.slice (some ⟨b, 0, none⟩) m m)) (p := ⟨w.heap.size + 1 + 1 + 1, 0, none⟩) (v := .int .i64 1) q3) (p := ⟨w.heap.size + 1 + 1 + 1, 1, none⟩) (v := .int .u64 0) q3) (p := ⟨w.heap.size + 1 + 1 + 1, 2, none⟩) (v := .int .u64 1) q3
  have rV := set3 (setOther (setOther (setOther (setOther (setOther (setOther (setOther hgV.out (p := ⟨w.heap.size + 1 + 1, 0, none⟩) (v := .string nm) q4) (p := ⟨w.heap.size + 1 + 1, 1, none⟩) (v := .int .u8 5) q4) (p := ⟨w.heap.size + 1 + 1, 2, none⟩) (v := .int .i64 aW) q4) (p := ⟨w.heap.size + 1 + 1, 3, none⟩) (v := .int .i64 aR) q4) (p := ⟨w.heap.size + 1 + 1, 4, none⟩) (v := .int .i64 aB) q4) (p := ⟨w.heap.size + 1 + 1, 5, none⟩) (v := .slice (some ⟨g, 0, none⟩) m m) q4) (p := ⟨w.heap.size + 1 + 1, 6, none⟩) (v := .slice (some ⟨b, 0, none⟩) m m) q4) (.int .i64 1) (.int .u64 0) (.int .u64 1)
  have rG := setOther (setOther (setOther (setOther (setOther (setOther (setOther (setOther (setOther (setOther hgB.out (p := ⟨w.heap.size + 1 + 1, 0, none⟩) (v := .string nm) q1) (p := ⟨w.heap.size + 1 + 1, 1, none⟩) (v := .int .u8 5) q1) (p := ⟨w.heap.size + 1 + 1, 2, none⟩) (v := .int .i64 aW) q1) (p := ⟨w.heap.size + 1 + 1, 3, none⟩) (v := .int .i64 aR) q1) (p := ⟨w.heap.size + 1 + 1, 4, none⟩) (v := .int .i64 aB) q1) (p := ⟨w.heap.size + 1 + 1, 5, none⟩) (v := .slice (some ⟨g, 0, none⟩) m m) q1) (p := ⟨w.heap.size + 1 + 1, 6, none⟩) (v := .slice (some ⟨b, 0, none⟩) m m) q1) (p := ⟨w.heap.size + 1 + 1 + 1, 0, none⟩) (v := .int .i64 1) q2) (p := ⟨w.heap.size + 1 + 1 + 1, 1, none⟩) (v := .int .u64 0) q2) (p := ⟨w.heap.size + 1 + 1 + 1, 2, none⟩) (v := .int .u64 1) q2
  have rO := ((((((((((Foot.refl (fun i => i = w.heap.size + 1 + 1 ∨ i = w.heap.size + 1 + 1 + 1) W5).setCell (p := ⟨w.heap.size + 1 + 1, 0, none⟩) (.inl (.inl rfl)) (.string nm)).setCell (p := ⟨w.heap.size + 1 + 1, 1, none⟩) (.inl (.inl rfl)) (.int .u8 5)).setCell (p := ⟨w.heap.size + 1 + 1, 2, none⟩) (.inl (.inl rfl)) (.int .i64 aW)).setCell (p := ⟨w.heap.size + 1 + 1, 3, none⟩) (.inl (.inl rfl)) (.int .i64 aR)).setCell (p := ⟨w.heap.size + 1 + 1, 4, none⟩) (.inl (.inl rfl)) (.int .i64 aB)).setCell (p := ⟨w.heap.size + 1 + 1, 5, none⟩) (.inl (.inl rfl)) (.slice (some ⟨g, 0, none⟩) m m)).setCell (p := ⟨w.heap.size + 1 + 1, 6, none⟩) (.inl (.inl rfl)) (.slice (some ⟨b, 0, none⟩) m m)).setCell (p := ⟨w.heap.size + 1 + 1 + 1, 0, none⟩) (.inl (.inr rfl)) (.int .i64 1)).setCell (p := ⟨w.heap.size + 1 + 1 + 1, 1, none⟩) (.inl (.inr rfl)) (.int .u64 0)).setCell (p := ⟨w.heap.size + 1 + 1 + 1, 2, none⟩) (.inl (.inr rfl)) (.int .u64 1) |>.own hgO.out (fun j hj h => by cases hj; rcases h with h | h <;> (have h' : b = _ := h; omega))
  have rB := (((((((((hgB'.out.setCell (p := ⟨w.heap.size + 1 + 1, 0, none⟩) hwz (.string nm)).setCell (p := ⟨w.heap.size + 1 + 1, 1, none⟩) hwz (.int .u8 5)).setCell (p := ⟨w.heap.size + 1 + 1, 2, none⟩) hwz (.int .i64 aW)).setCell (p := ⟨w.heap.size + 1 + 1, 3, none⟩) hwz (.int .i64 aR)).setCell (p := ⟨w.heap.size + 1 + 1, 4, none⟩) hwz (.int .i64 aB)).setCell (p := ⟨w.heap.size + 1 + 1, 5, none⟩) hwz (.slice (some ⟨g, 0, none⟩) m m)).setCell (p := ⟨w.heap.size + 1 + 1, 6, none⟩) hwz (.slice (some ⟨b, 0, none⟩) m m)).setCell (p := ⟨w.heap.size + 1 + 1 + 1, 0, none⟩) hwv (.int .i64 1)).setCell (p := ⟨w.heap.size + 1 + 1 + 1, 1, none⟩) hwv (.int .u64 0)).setCell (p := ⟨w.heap.size + 1 + 1 + 1, 2, none⟩) hwv (.int .u64 1)
  go_wp2
  have rZ' := heap_drew rZ
  have rV' := heap_drew rV
  have rG' := heap_drew rG
  have rO' := own_drew' rO
  have rB' := rB.drew
  clear rZ rV rG rO rB q1 q2 q3 q4 hgB hgP hgV hgZ hgO hgN hgB'
  refine bodyPost_ret (results_cct rfl _ _ (w.heap.size + 1 + 1) (w.heap.size + 1 + 1 + 1) 38 45 _ _ (0, 0) (0, 0) _ _ rfl rZ' Try.underlying38 rfl (by kernel_rfl) rfl rV' Try.underlying45 rfl (by kernel_rfl)) rfl ?_
  refine ⟨g, some ⟨b, 0, none⟩, c', ?_, ?_, ?_, ?_, ?_⟩
  · rfl
  · omega
  · exact rG'
  · exact rO'
  · exact rB'
set_option maxRecDepth 100000 in
set_option maxHeartbeats 3200000 in
theorem Meter_go101 (a : Arr) (ho : a.ok) (hkd : a.kd = 5) (A : Option Addr) (n c : Nat) (B : Option Addr) (m d k : Nat) (hBd : B = none → d = 0) (x'W x'H x'L : Int) (hxx : a.cs.getD k zeroNum = ⟨x'W, x'H, x'L⟩) (last now : Int) (hll : a.ls.getD k 0 = last) (hn0 : 0 ≤ now) (hn1 : now ≤ 9223372036854775807) (hgt : last < now) (hq : a.Burst < now - last) (mo : Int) (hmo : IntKind.u64.wrap (a.Burst * a.Rate) = mo) (hmo0 : 0 ≤ mo) (hmo1 : mo ≤ 4294836225) (hl : ¬ a.Burst < x'L + mo) (lo : Int) (hlo_ : lo = x'L + mo) (hpos : 0 < lo) (x : Num) (hxw : x.wf) (hxo : x.ok) (hx0 : x.Hi = 0) (hxk : x.Lo = (k : Int)) (hk : k < n) (w : World) (hR : ReadsNums w A n a.cs) (hS : Reads w .i64 B m a.ls) :
    Calls Try.prog 18 #[.agg (a.vals A n c B m d), x.v, .int .i64 now] w fun e w' => ∃ g B' c', e = .returned (.tuple #[.agg ({ a with cs := a.cs.set k ⟨x'W, x'H, (lo - 1)⟩, ls := a.ls.set k now }.vals (some ⟨g, 0, none⟩) n n B' m m), .agg #[.int .i64 1, .int .u64 0, .int .u64 1], .int .i64 0]) ∧ w.heap.size ≤ g ∧ w'.heap[g]? = some (.cells (numsV (a.cs.set k ⟨x'W, x'H, (lo - 1)⟩)).toArray 45 (0, 0)) ∧ w'.ownsRow (g + 1) 3 1 (.slice B' m c') m (nums .i64 (a.ls.set k now)) ∧ Below w.heap.size w w' := by
  obtain ⟨HP, HV, HZ, HA, HBW⟩ := box_meter w (a.vals A n c B m d) #[.int .i64 x.W, .int .u64 x.Hi, .int .u64 x.Lo] zeroVals #[.int .i64 0, .int .u64 0, .int .u64 0] (a.vals A n c B m d) 38 45 38 45 63 _ rfl
  have HC := aside (cell_own' a ho A n c B m d (w.heap.size + 1 + 1 + 1 + 1) k hBd x hxw hxo hx0 hxk hk w _ HBW.out.1 hR hS HP.out (by omega))
  have hkl : k < a.cs.length := by rw [hR.1]; exact hk
  have hsc := ho.scal.2.2.2 hkd
  have hln := ho.len
  have hcell := ho.cells k hkl
  rw [hxx] at hcell
  have hlo := hcell.2.2.2 hkd
  have hlo0 := hcell.1.2.2.1
  have hla0 := ho.last k (by rw [hsc.2.2.2.2]; exact hkl)
  rw [hll] at hla0
  have hml : a.ls.length = m := hS.1
  have hnl : a.cs.length = n := hR.1
  have hmn : m = n := by rw [← hml, ← hnl]; exact hsc.2.2.2.2
  have HGET := aside (numsV_get a.cs k hkl)
  rw [hxx] at HGET
  have HSETA := aside (fun lo => by have := numsV_set2 a.cs k hkl lo; rwa [hxx] at this : ∀ lo, (numsV a.cs).set (k * 3 + 2) (.int .u64 lo) = numsV (a.cs.set k ⟨x'W, x'H, lo⟩))
  have HLL := aside hll
  have HXX := aside hxx
  clear hR hS hxw hxo hxx hcell hll
  obtain ⟨xW, xh, xl⟩ := x
  obtain ⟨nm, kd, aW, aR, aB, cs, ls⟩ := a
  simp only [Num.v, Arr.vals, zeroVals] at *
  subst hx0 hxk hkd hmn
  obtain ⟨r0, r1, b0, b1, _⟩ := hsc
  clear ho
  go_enter Try.func18, Try.ntmps18
  go_wp2_with fail
  refine Calls.mono HC.out ?_
  rintro e w1 ⟨g, B', rfl, hg0, hg1, hp1, ⟨c', hO⟩, hF1⟩
  obtain ⟨hbw, hsz⟩ := HBW.out
  replace HV := aside (hF1.blk HV.out (by omega))
  replace HZ := aside (hF1.blk HZ.out (by omega))
  replace HA := aside (hF1.blk HA.out (by omega))
  have HB := aside (hbw.trans (hF1.below (fun i hi => by omega) hbw.size))
  obtain ⟨b, c'', hB', hb0, hb1, hb2, hb3⟩ := own_some hO (by omega)
  cases hB'
  have HP := aside hp1
  have HG := aside hg1
  have HO := aside hO
  have hnow : decide (now < 0) = false := decide_eq_false (by omega)
  have hk0 : (0 : Int) ≤ (k : Int) := by omega
  have hk1 : (k : Int) < (m : Int) := by omega
  have l0 : w1.cell? ⟨b, k, none⟩ = some (.int .i64 last) := by rw [own_at hO k hk, HLL.out]
  obtain ⟨⟨p0, p1, p2⟩, p3, p4, p5, p6⟩ := cells7' HP
  obtain ⟨⟨a0, a1, a2⟩, a3, a4, a5, a6⟩ := cells7' HA
  have hd : decide (last < now) = true := decide_eq_true (by omega)
  have hd0 := eq_true (by omega : last < now)
  clear hp1 hg1 hO hF1 HC
  have hqd : decide (aB < now - last) = true := decide_eq_true (by omega)
  have hqt := eq_true (by omega : aB < now - last)
  have hld : decide (aB < x'L + mo) = false := decide_eq_false (by omega)
  have hlt := eq_false (by omega : ¬ aB < x'L + mo)
  go_wp2_with fail
  go_region
  have g2 : w1.cell? ⟨g, k * 3 + 2, none⟩ = some (.int .u64 x'L) := (cellOf HG.out _).trans (by rw [List.getElem?_toArray]; exact HGET.out.2.2)
  have g2' : w1.drew.cell? ⟨g, k * 3 + 2, none⟩ = some (.int .u64 x'L) := g2
  have fg := frozenOf HG.out
  have fg' : ∀ i, w1.drew.frozen? ⟨g, i, none⟩ = false := fg
  have l0' : w1.drew.cell? ⟨b, k, none⟩ = some (.int .i64 last) := l0
  have fb : w1.frozen? ⟨b, k, none⟩ = false := own_frozen HO.out k
  have fb' : w1.drew.frozen? ⟨b, k, none⟩ = false := fb
  have a4' : w1.drew.cell? ⟨w.heap.size, 4, none⟩ = some (.int .i64 aB) := a4
  have hbg : ¬ b = g := by omega
  have hgb : ¬ g = b := by omega
  go_wp2_with fail
  go_region
  clear g2 g2' fg fg' l0 l0' fb fb' a4' a0 a1 a2 a3 a4 a5 a6 p0 p1 p2 p3 p4 p5 p6 hqd hqt hld hlt
  subst hlo_
  have n1 : g ≠ w.heap.size + 1 + 1 + 1 + 1 := by omega
  have n2 : b ≠ w.heap.size + 1 + 1 + 1 + 1 := by omega
  have n3 : g ≠ w.heap.size + 1 + 1 + 1 := by omega
  have n4 : b ≠ w.heap.size + 1 + 1 + 1 := by omega
  have n5 : g ≠ w.heap.size + 1 + 1 := by omega
  have n6 : b ≠ w.heap.size + 1 + 1 := by omega
  have mG := setOther (setCell_heap HG.out (k * 3 + 2) (.int .u64 (x'L + mo))) (p := ⟨b, k, none⟩) (v := .int .i64 now) hbg
  rw [List.setIfInBounds_toArray, HSETA.out] at mG
  have mO := own_put (((Foot.refl (fun i => i = g) w1).setCell (p := ⟨g, k * 3 + 2, none⟩) (.inl rfl) (.int .u64 (x'L + mo))).own HO.out (fun j hj h => by cases hj; exact hbg h)) k now
  have mP := setOther (setOther HP.out (p := ⟨g, k * 3 + 2, none⟩) (v := .int .u64 (x'L + mo)) n1) (p := ⟨b, k, none⟩) (v := .int .i64 now) n2
  have mV := setOther (setOther HV.out (p := ⟨g, k * 3 + 2, none⟩) (v := .int .u64 (x'L + mo)) n3) (p := ⟨b, k, none⟩) (v := .int .i64 now) n4
  have mZ := setOther (setOther HZ.out (p := ⟨g, k * 3 + 2, none⟩) (v := .int .u64 (x'L + mo)) n5) (p := ⟨b, k, none⟩) (v := .int .i64 now) n6
  have mB := (HB.out.setCell (p := ⟨g, k * 3 + 2, none⟩) (show w.heap.size ≤ g by omega) (.int .u64 (x'L + mo))).setCell (p := ⟨b, k, none⟩) (show w.heap.size ≤ b by omega) (.int .i64 now)
  have hU1 : (((w1.setCell ⟨g, k * 3 + 2, none⟩ (.int .u64 (x'L + mo))).setCell ⟨b, k, none⟩ (.int .i64 now)).drew.drew).heap = ((w1.setCell ⟨g, k * 3 + 2, none⟩ (.int .u64 (x'L + mo))).setCell ⟨b, k, none⟩ (.int .i64 now)).heap := rfl
  replace HG := aside ((congrArg (fun (h : Array Obj) => h[g]?) hU1).trans mG)
  replace HP := aside ((congrArg (fun (h : Array Obj) => h[w.heap.size + 1 + 1 + 1 + 1]?) hU1).trans mP)
  replace HV := aside ((congrArg (fun (h : Array Obj) => h[w.heap.size + 1 + 1 + 1]?) hU1).trans mV)
  replace HZ := aside ((congrArg (fun (h : Array Obj) => h[w.heap.size + 1 + 1]?) hU1).trans mZ)
  replace HO := aside (show (((w1.setCell ⟨g, k * 3 + 2, none⟩ (.int .u64 (x'L + mo))).setCell ⟨b, k, none⟩ (.int .i64 now)).drew.drew).ownsRow (g + 1) 3 1 (.slice (some ⟨b, 0, none⟩) m c') m (nums .i64 (ls.set k now)) from mO)
  replace HB := aside mB.drew.drew
  clear mG mO mP mV mZ mB hU1 HA n1 n2 n3 n4 n5 n6
  generalize (((w1.setCell ⟨g, k * 3 + 2, none⟩ (.int .u64 (x'L + mo))).setCell ⟨b, k, none⟩ (.int .i64 now)).drew.drew) = U at *
  have HSETB := aside (numsV_set2 (cs.set k ⟨x'W, x'H, (x'L + mo)⟩) k (by simpa using hkl))
  have HSETD := aside (fun lo2 => numsV_set3 cs k hkl x'W x'H (x'L + mo) lo2)
  have HGT2 := aside (show (numsV (cs.set k ⟨x'W, x'H, (x'L + mo)⟩))[k * 3 + 2]? = some (.int .u64 (x'L + mo)) by rw [← HSETA.out, List.getElem?_set_self (by rw [numsV_length]; omega)])
  have HSETC := aside (show (numsV (cs.set k ⟨x'W, x'H, (x'L + mo)⟩)).set (k * 3 + 2) (.int .u64 ((x'L + mo) - 1)) = numsV (cs.set k ⟨x'W, x'H, (x'L + mo) - 1⟩) from HSETD.out _)
  have hgU : g < U.heap.size := (Array.getElem?_eq_some_iff.1 HG.out).1
  have hpU : w.heap.size + 1 + 1 + 1 + 1 < U.heap.size := (Array.getElem?_eq_some_iff.1 HP.out).1
  have hbU := (Below.refl U.heap.size U).alloc (Nat.le_refl _) (.cells #[.int .i64 1, .int .u64 0, .int .u64 0] 45)
  have HBX := aside (heap_alloc_new U (.cells #[.int .i64 1, .int .u64 0, .int .u64 0] 45))
  have MG := aside (heapOld U (.cells #[.int .i64 1, .int .u64 0, .int .u64 0] 45) _ _ HG.out)
  have MP := aside (heapOld U (.cells #[.int .i64 1, .int .u64 0, .int .u64 0] 45) _ _ HP.out)
  have MV := aside (heapOld U (.cells #[.int .i64 1, .int .u64 0, .int .u64 0] 45) _ _ HV.out)
  have MZ := aside (heapOld U (.cells #[.int .i64 1, .int .u64 0, .int .u64 0] 45) _ _ HZ.out)
  have MO := aside (own_keep HO.out hbU)
  have MB := aside (HB.out.trans (hbU.mono HB.out.size))
  have y2 : (U.alloc (.cells #[.int .i64 1, .int .u64 0, .int .u64 0] 45)).cell? ⟨g, k * 3 + 2, none⟩ = some (.int .u64 (x'L + mo)) := (cellOf MG.out _).trans (by rw [List.getElem?_toArray]; exact HGT2.out)
  have fy := frozenOf MG.out
  have fx := frozenOf HBX.out
  have x0 := cellOf HBX.out 0
  have x1 := cellOf HBX.out 1
  have x2 := cellOf HBX.out 2
  simp only [List.getElem?_toArray, List.getElem?_cons_zero, List.getElem?_cons_succ] at x0 x1 x2
  have hgx : ¬ g = U.heap.size := by omega
  have hxg : ¬ U.heap.size = g := by omega
  have hlp : decide (0 < (x'L + mo)) = true := decide_eq_true (by omega)
  have hlq := eq_true (by omega : 0 < (x'L + mo))
  clear hbU
  go_wp2_with fail
  clear y2 fx fy x0 x1 x2 HGT2
  have hgB : Aside (((U.setCell ⟨g, k * 3 + 2, none⟩ (.int .u64 ((x'L + mo) - 1))).alloc (.cells #[.int .i64 1, .int .u64 0, .int .u64 1] 45)).heap[g]? = some (.cells (numsV (cs.set k ⟨x'W, x'H, (x'L + mo) - 1⟩)).toArray 45 (0, 0))) := by
    have h := setCell_heap HG.out (k * 3 + 2) (.int .u64 ((x'L + mo) - 1))
    rw [List.setIfInBounds_toArray, HSETC.out] at h
    exact heapOld _ _ _ _ h
  have hgP := aside (heapOld _ (.cells #[.int .i64 1, .int .u64 0, .int .u64 1] 45) _ _ (setOther HP.out (p := ⟨g, k * 3 + 2, none⟩) (v := .int .u64 ((x'L + mo) - 1)) (show g ≠ w.heap.size + 1 + 1 + 1 + 1 by omega)))
  have hgV := aside (heapOld _ (.cells #[.int .i64 1, .int .u64 0, .int .u64 1] 45) _ _ (setOther HV.out (p := ⟨g, k * 3 + 2, none⟩) (v := .int .u64 ((x'L + mo) - 1)) (show g ≠ w.heap.size + 1 + 1 + 1 by omega)))
  have hgZ := aside (heapOld _ (.cells #[.int .i64 1, .int .u64 0, .int .u64 1] 45) _ _ (setOther HZ.out (p := ⟨g, k * 3 + 2, none⟩) (v := .int .u64 ((x'L + mo) - 1)) (show g ≠ w.heap.size + 1 + 1 by omega)))
  have hgO := aside (own_keep (((Foot.refl (fun i => i = g) U).setCell (p := ⟨g, k * 3 + 2, none⟩) (.inl rfl) (.int .u64 ((x'L + mo) - 1))).own HO.out (fun j hj h => by cases hj; exact hbg h)) ((Below.refl _ _).alloc (Nat.le_refl _) (.cells #[.int .i64 1, .int .u64 0, .int .u64 1] 45)))
  have hgN := aside (heapLit (U.setCell ⟨g, k * 3 + 2, none⟩ (.int .u64 ((x'L + mo) - 1))) #[.int .i64 1, .int .u64 0, .int .u64 1] 45 U.heap.size (by simp [World.setCell]))
  have hgB' := aside ((HB.out.setCell (p := ⟨g, k * 3 + 2, none⟩) (show w.heap.size ≤ g by omega) (.int .u64 ((x'L + mo) - 1))).alloc (HB.out.setCell (p := ⟨g, k * 3 + 2, none⟩) (show w.heap.size ≤ g by omega) (.int .u64 ((x'L + mo) - 1))).size (.cells #[.int .i64 1, .int .u64 0, .int .u64 1] 45))
  generalize (U.setCell ⟨g, k * 3 + 2, none⟩ (.int .u64 ((x'L + mo) - 1))).alloc (.cells #[.int .i64 1, .int .u64 0, .int .u64 1] 45) = W5 at *
  clear MG MP MV MZ MO MB HBX
  obtain ⟨⟨p0, p1, p2⟩, p3, p4, p5, p6⟩ := cells7' (V := W5.drew) hgP
  obtain ⟨⟨z0, z1, z2⟩, z3, z4, z5, z6⟩ := cells7' (V := W5.drew) hgZ
  obtain ⟨⟨z0', z1', z2'⟩, z3', z4', z5', z6'⟩ := cells7' hgZ
  have v0 := cellOf hgV.out 0
  have v1 := cellOf hgV.out 1
  have v2 := cellOf hgV.out 2
  have n0 := cellOf (w := W5.drew) hgN.out 0
  have n1 := cellOf (w := W5.drew) hgN.out 1
  have n2 := cellOf (w := W5.drew) hgN.out 2
  have n0' := cellOf hgN.out 0
  have n1' := cellOf hgN.out 1
  have n2' := cellOf hgN.out 2
  have v0' := cellOf (w := W5.drew) hgV.out 0
  have v1' := cellOf (w := W5.drew) hgV.out 1
  have v2' := cellOf (w := W5.drew) hgV.out 2
  obtain ⟨⟨p0', p1', p2'⟩, p3', p4', p5', p6'⟩ := cells7' hgP
  have fz := frozenOf hgZ.out
  have fv := frozenOf hgV.out
  have fz' : ∀ i, W5.drew.frozen? ⟨_, i, none⟩ = false := fz
  have fv' : ∀ i, W5.drew.frozen? ⟨_, i, none⟩ = false := fv
  simp only [List.getElem?_toArray, List.getElem?_cons_zero, List.getElem?_cons_succ] at v0 v1 v2 n0 n1 n2 n0' n1' n2' v0' v1' v2'
  go_region
  have hwz : w.heap.size ≤ w.heap.size + 1 + 1 := by omega
  have hwv : w.heap.size ≤ w.heap.size + 1 + 1 + 1 := by omega
  have q1 : w.heap.size + 1 + 1 ≠ g := by omega
  have q2 : w.heap.size + 1 + 1 + 1 ≠ g := by omega
  have q3 : w.heap.size + 1 + 1 + 1 ≠ w.heap.size + 1 + 1 := by omega
  have q4 : w.heap.size + 1 + 1 ≠ w.heap.size + 1 + 1 + 1 := by omega
  have rZ := setOther (setOther (setOther (set7 hgZ.out (.string nm) (.int .u8 5) (.int .i64 aW) (.int .i64 aR) (.int .i64 aB) (.slice (some ⟨g, 0, none⟩) m m) (.slice (some ⟨b, 0, none⟩) m m)) (p := ⟨w.heap.size + 1 + 1 + 1, 0, none⟩) (v := .int .i64 1) q3) (p := ⟨w.heap.size + 1 + 1 + 1, 1, none⟩) (v := .int .u64 0) q3) (p := ⟨w.heap.size + 1 + 1 + 1, 2, none⟩) (v := .int .u64 1) q3
  have rV := set3 (setOther (setOther (setOther (setOther (setOther (setOther (setOther hgV.out (p := ⟨w.heap.size + 1 + 1, 0, none⟩) (v := .string nm) q4) (p := ⟨w.heap.size + 1 + 1, 1, none⟩) (v := .int .u8 5) q4) (p := ⟨w.heap.size + 1 + 1, 2, none⟩) (v := .int .i64 aW) q4) (p := ⟨w.heap.size + 1 + 1, 3, none⟩) (v := .int .i64 aR) q4) (p := ⟨w.heap.size + 1 + 1, 4, none⟩) (v := .int .i64 aB) q4) (p := ⟨w.heap.size + 1 + 1, 5, none⟩) (v := .slice (some ⟨g, 0, none⟩) m m) q4) (p := ⟨w.heap.size + 1 + 1, 6, none⟩) (v := .slice (some ⟨b, 0, none⟩) m m) q4) (.int .i64 1) (.int .u64 0) (.int .u64 1)
  have rG := setOther (setOther (setOther (setOther (setOther (setOther (setOther (setOther (setOther (setOther hgB.out (p := ⟨w.heap.size + 1 + 1, 0, none⟩) (v := .string nm) q1) (p := ⟨w.heap.size + 1 + 1, 1, none⟩) (v := .int .u8 5) q1) (p := ⟨w.heap.size + 1 + 1, 2, none⟩) (v := .int .i64 aW) q1) (p := ⟨w.heap.size + 1 + 1, 3, none⟩) (v := .int .i64 aR) q1) (p := ⟨w.heap.size + 1 + 1, 4, none⟩) (v := .int .i64 aB) q1) (p := ⟨w.heap.size + 1 + 1, 5, none⟩) (v := .slice (some ⟨g, 0, none⟩) m m) q1) (p := ⟨w.heap.size + 1 + 1, 6, none⟩) (v := .slice (some ⟨b, 0, none⟩) m m) q1) (p := ⟨w.heap.size + 1 + 1 + 1, 0, none⟩) (v := .int .i64 1) q2) (p := ⟨w.heap.size + 1 + 1 + 1, 1, none⟩) (v := .int .u64 0) q2) (p := ⟨w.heap.size + 1 + 1 + 1, 2, none⟩) (v := .int .u64 1) q2
  have rO := ((((((((((Foot.refl (fun i => i = w.heap.size + 1 + 1 ∨ i = w.heap.size + 1 + 1 + 1) W5).setCell (p := ⟨w.heap.size + 1 + 1, 0, none⟩) (.inl (.inl rfl)) (.string nm)).setCell (p := ⟨w.heap.size + 1 + 1, 1, none⟩) (.inl (.inl rfl)) (.int .u8 5)).setCell (p := ⟨w.heap.size + 1 + 1, 2, none⟩) (.inl (.inl rfl)) (.int .i64 aW)).setCell (p := ⟨w.heap.size + 1 + 1, 3, none⟩) (.inl (.inl rfl)) (.int .i64 aR)).setCell (p := ⟨w.heap.size + 1 + 1, 4, none⟩) (.inl (.inl rfl)) (.int .i64 aB)).setCell (p := ⟨w.heap.size + 1 + 1, 5, none⟩) (.inl (.inl rfl)) (.slice (some ⟨g, 0, none⟩) m m)).setCell (p := ⟨w.heap.size + 1 + 1, 6, none⟩) (.inl (.inl rfl)) (.slice (some ⟨b, 0, none⟩) m m)).setCell (p := ⟨w.heap.size + 1 + 1 + 1, 0, none⟩) (.inl (.inr rfl)) (.int .i64 1)).setCell (p := ⟨w.heap.size + 1 + 1 + 1, 1, none⟩) (.inl (.inr rfl)) (.int .u64 0)).setCell (p := ⟨w.heap.size + 1 + 1 + 1, 2, none⟩) (.inl (.inr rfl)) (.int .u64 1) |>.own hgO.out (fun j hj h => by cases hj; rcases h with h | h <;> (have h' : b = _ := h; omega))
  have rB := (((((((((hgB'.out.setCell (p := ⟨w.heap.size + 1 + 1, 0, none⟩) hwz (.string nm)).setCell (p := ⟨w.heap.size + 1 + 1, 1, none⟩) hwz (.int .u8 5)).setCell (p := ⟨w.heap.size + 1 + 1, 2, none⟩) hwz (.int .i64 aW)).setCell (p := ⟨w.heap.size + 1 + 1, 3, none⟩) hwz (.int .i64 aR)).setCell (p := ⟨w.heap.size + 1 + 1, 4, none⟩) hwz (.int .i64 aB)).setCell (p := ⟨w.heap.size + 1 + 1, 5, none⟩) hwz (.slice (some ⟨g, 0, none⟩) m m)).setCell (p := ⟨w.heap.size + 1 + 1, 6, none⟩) hwz (.slice (some ⟨b, 0, none⟩) m m)).setCell (p := ⟨w.heap.size + 1 + 1 + 1, 0, none⟩) hwv (.int .i64 1)).setCell (p := ⟨w.heap.size + 1 + 1 + 1, 1, none⟩) hwv (.int .u64 0)).setCell (p := ⟨w.heap.size + 1 + 1 + 1, 2, none⟩) hwv (.int .u64 1)
  go_wp2
  have rZ' := heap_drew rZ
  have rV' := heap_drew rV
  have rG' := heap_drew rG
  have rO' := own_drew' rO
  have rB' := rB.drew
  clear rZ rV rG rO rB q1 q2 q3 q4 hgB hgP hgV hgZ hgO hgN hgB'
  refine bodyPost_ret (results_cct rfl _ _ (w.heap.size + 1 + 1) (w.heap.size + 1 + 1 + 1) 38 45 _ _ (0, 0) (0, 0) _ _ rfl rZ' Try.underlying38 rfl (by kernel_rfl) rfl rV' Try.underlying45 rfl (by kernel_rfl)) rfl ?_
  refine ⟨g, some ⟨b, 0, none⟩, c', ?_, ?_, ?_, ?_, ?_⟩
  · rfl
  · omega
  · exact rG'
  · exact rO'
  · exact rB'
set_option maxRecDepth 100000 in
set_option maxHeartbeats 3200000 in
theorem Meter_go100 (a : Arr) (ho : a.ok) (hkd : a.kd = 5) (A : Option Addr) (n c : Nat) (B : Option Addr) (m d k : Nat) (hBd : B = none → d = 0) (x'W x'H x'L : Int) (hxx : a.cs.getD k zeroNum = ⟨x'W, x'H, x'L⟩) (last now : Int) (hll : a.ls.getD k 0 = last) (hn0 : 0 ≤ now) (hn1 : now ≤ 9223372036854775807) (hgt : last < now) (hq : a.Burst < now - last) (mo : Int) (hmo : IntKind.u64.wrap (a.Burst * a.Rate) = mo) (hmo0 : 0 ≤ mo) (hmo1 : mo ≤ 4294836225) (hl : ¬ a.Burst < x'L + mo) (lo : Int) (hlo_ : lo = x'L + mo) (hpos : ¬ 0 < lo) (x : Num) (hxw : x.wf) (hxo : x.ok) (hx0 : x.Hi = 0) (hxk : x.Lo = (k : Int)) (hk : k < n) (w : World) (hR : ReadsNums w A n a.cs) (hS : Reads w .i64 B m a.ls) :
    Calls Try.prog 18 #[.agg (a.vals A n c B m d), x.v, .int .i64 now] w fun e w' => ∃ g B' c', e = .returned (.tuple #[.agg ({ a with cs := a.cs.set k ⟨x'W, x'H, lo⟩, ls := a.ls.set k now }.vals (some ⟨g, 0, none⟩) n n B' m m), .agg #[.int .i64 1, .int .u64 0, .int .u64 0], .int .i64 0]) ∧ w.heap.size ≤ g ∧ w'.heap[g]? = some (.cells (numsV (a.cs.set k ⟨x'W, x'H, lo⟩)).toArray 45 (0, 0)) ∧ w'.ownsRow (g + 1) 3 1 (.slice B' m c') m (nums .i64 (a.ls.set k now)) ∧ Below w.heap.size w w' := by
  obtain ⟨HP, HV, HZ, HA, HBW⟩ := box_meter w (a.vals A n c B m d) #[.int .i64 x.W, .int .u64 x.Hi, .int .u64 x.Lo] zeroVals #[.int .i64 0, .int .u64 0, .int .u64 0] (a.vals A n c B m d) 38 45 38 45 63 _ rfl
  have HC := aside (cell_own' a ho A n c B m d (w.heap.size + 1 + 1 + 1 + 1) k hBd x hxw hxo hx0 hxk hk w _ HBW.out.1 hR hS HP.out (by omega))
  have hkl : k < a.cs.length := by rw [hR.1]; exact hk
  have hsc := ho.scal.2.2.2 hkd
  have hln := ho.len
  have hcell := ho.cells k hkl
  rw [hxx] at hcell
  have hlo := hcell.2.2.2 hkd
  have hlo0 := hcell.1.2.2.1
  have hla0 := ho.last k (by rw [hsc.2.2.2.2]; exact hkl)
  rw [hll] at hla0
  have hml : a.ls.length = m := hS.1
  have hnl : a.cs.length = n := hR.1
  have hmn : m = n := by rw [← hml, ← hnl]; exact hsc.2.2.2.2
  have HGET := aside (numsV_get a.cs k hkl)
  rw [hxx] at HGET
  have HSETA := aside (fun lo => by have := numsV_set2 a.cs k hkl lo; rwa [hxx] at this : ∀ lo, (numsV a.cs).set (k * 3 + 2) (.int .u64 lo) = numsV (a.cs.set k ⟨x'W, x'H, lo⟩))
  have HLL := aside hll
  have HXX := aside hxx
  clear hR hS hxw hxo hxx hcell hll
  obtain ⟨xW, xh, xl⟩ := x
  obtain ⟨nm, kd, aW, aR, aB, cs, ls⟩ := a
  simp only [Num.v, Arr.vals, zeroVals] at *
  subst hx0 hxk hkd hmn
  obtain ⟨r0, r1, b0, b1, _⟩ := hsc
  clear ho
  go_enter Try.func18, Try.ntmps18
  go_wp2_with fail
  refine Calls.mono HC.out ?_
  rintro e w1 ⟨g, B', rfl, hg0, hg1, hp1, ⟨c', hO⟩, hF1⟩
  obtain ⟨hbw, hsz⟩ := HBW.out
  replace HV := aside (hF1.blk HV.out (by omega))
  replace HZ := aside (hF1.blk HZ.out (by omega))
  replace HA := aside (hF1.blk HA.out (by omega))
  have HB := aside (hbw.trans (hF1.below (fun i hi => by omega) hbw.size))
  obtain ⟨b, c'', hB', hb0, hb1, hb2, hb3⟩ := own_some hO (by omega)
  cases hB'
  have HP := aside hp1
  have HG := aside hg1
  have HO := aside hO
  have hnow : decide (now < 0) = false := decide_eq_false (by omega)
  have hk0 : (0 : Int) ≤ (k : Int) := by omega
  have hk1 : (k : Int) < (m : Int) := by omega
  have l0 : w1.cell? ⟨b, k, none⟩ = some (.int .i64 last) := by rw [own_at hO k hk, HLL.out]
  obtain ⟨⟨p0, p1, p2⟩, p3, p4, p5, p6⟩ := cells7' HP
  obtain ⟨⟨a0, a1, a2⟩, a3, a4, a5, a6⟩ := cells7' HA
  have hd : decide (last < now) = true := decide_eq_true (by omega)
  have hd0 := eq_true (by omega : last < now)
  clear hp1 hg1 hO hF1 HC
  have hqd : decide (aB < now - last) = true := decide_eq_true (by omega)
  have hqt := eq_true (by omega : aB < now - last)
  have hld : decide (aB < x'L + mo) = false := decide_eq_false (by omega)
  have hlt := eq_false (by omega : ¬ aB < x'L + mo)
  go_wp2_with fail
  go_region
  have g2 : w1.cell? ⟨g, k * 3 + 2, none⟩ = some (.int .u64 x'L) := (cellOf HG.out _).trans (by rw [List.getElem?_toArray]; exact HGET.out.2.2)
  have g2' : w1.drew.cell? ⟨g, k * 3 + 2, none⟩ = some (.int .u64 x'L) := g2
  have fg := frozenOf HG.out
  have fg' : ∀ i, w1.drew.frozen? ⟨g, i, none⟩ = false := fg
  have l0' : w1.drew.cell? ⟨b, k, none⟩ = some (.int .i64 last) := l0
  have fb : w1.frozen? ⟨b, k, none⟩ = false := own_frozen HO.out k
  have fb' : w1.drew.frozen? ⟨b, k, none⟩ = false := fb
  have a4' : w1.drew.cell? ⟨w.heap.size, 4, none⟩ = some (.int .i64 aB) := a4
  have hbg : ¬ b = g := by omega
  have hgb : ¬ g = b := by omega
  go_wp2_with fail
  go_region
  clear g2 g2' fg fg' l0 l0' fb fb' a4' a0 a1 a2 a3 a4 a5 a6 p0 p1 p2 p3 p4 p5 p6 hqd hqt hld hlt
  subst hlo_
  have n1 : g ≠ w.heap.size + 1 + 1 + 1 + 1 := by omega
  have n2 : b ≠ w.heap.size + 1 + 1 + 1 + 1 := by omega
  have n3 : g ≠ w.heap.size + 1 + 1 + 1 := by omega
  have n4 : b ≠ w.heap.size + 1 + 1 + 1 := by omega
  have n5 : g ≠ w.heap.size + 1 + 1 := by omega
  have n6 : b ≠ w.heap.size + 1 + 1 := by omega
  have mG := setOther (setCell_heap HG.out (k * 3 + 2) (.int .u64 (x'L + mo))) (p := ⟨b, k, none⟩) (v := .int .i64 now) hbg
  rw [List.setIfInBounds_toArray, HSETA.out] at mG
  have mO := own_put (((Foot.refl (fun i => i = g) w1).setCell (p := ⟨g, k * 3 + 2, none⟩) (.inl rfl) (.int .u64 (x'L + mo))).own HO.out (fun j hj h => by cases hj; exact hbg h)) k now
  have mP := setOther (setOther HP.out (p := ⟨g, k * 3 + 2, none⟩) (v := .int .u64 (x'L + mo)) n1) (p := ⟨b, k, none⟩) (v := .int .i64 now) n2
  have mV := setOther (setOther HV.out (p := ⟨g, k * 3 + 2, none⟩) (v := .int .u64 (x'L + mo)) n3) (p := ⟨b, k, none⟩) (v := .int .i64 now) n4
  have mZ := setOther (setOther HZ.out (p := ⟨g, k * 3 + 2, none⟩) (v := .int .u64 (x'L + mo)) n5) (p := ⟨b, k, none⟩) (v := .int .i64 now) n6
  have mB := (HB.out.setCell (p := ⟨g, k * 3 + 2, none⟩) (show w.heap.size ≤ g by omega) (.int .u64 (x'L + mo))).setCell (p := ⟨b, k, none⟩) (show w.heap.size ≤ b by omega) (.int .i64 now)
  have hU1 : (((w1.setCell ⟨g, k * 3 + 2, none⟩ (.int .u64 (x'L + mo))).setCell ⟨b, k, none⟩ (.int .i64 now)).drew.drew).heap = ((w1.setCell ⟨g, k * 3 + 2, none⟩ (.int .u64 (x'L + mo))).setCell ⟨b, k, none⟩ (.int .i64 now)).heap := rfl
  replace HG := aside ((congrArg (fun (h : Array Obj) => h[g]?) hU1).trans mG)
  replace HP := aside ((congrArg (fun (h : Array Obj) => h[w.heap.size + 1 + 1 + 1 + 1]?) hU1).trans mP)
  replace HV := aside ((congrArg (fun (h : Array Obj) => h[w.heap.size + 1 + 1 + 1]?) hU1).trans mV)
  replace HZ := aside ((congrArg (fun (h : Array Obj) => h[w.heap.size + 1 + 1]?) hU1).trans mZ)
  replace HO := aside (show (((w1.setCell ⟨g, k * 3 + 2, none⟩ (.int .u64 (x'L + mo))).setCell ⟨b, k, none⟩ (.int .i64 now)).drew.drew).ownsRow (g + 1) 3 1 (.slice (some ⟨b, 0, none⟩) m c') m (nums .i64 (ls.set k now)) from mO)
  replace HB := aside mB.drew.drew
  clear mG mO mP mV mZ mB hU1 HA n1 n2 n3 n4 n5 n6
  generalize (((w1.setCell ⟨g, k * 3 + 2, none⟩ (.int .u64 (x'L + mo))).setCell ⟨b, k, none⟩ (.int .i64 now)).drew.drew) = U at *
  have HSETB := aside (numsV_set2 (cs.set k ⟨x'W, x'H, (x'L + mo)⟩) k (by simpa using hkl))
  have HSETD := aside (fun lo2 => numsV_set3 cs k hkl x'W x'H (x'L + mo) lo2)
  have HGT2 := aside (show (numsV (cs.set k ⟨x'W, x'H, (x'L + mo)⟩))[k * 3 + 2]? = some (.int .u64 (x'L + mo)) by rw [← HSETA.out, List.getElem?_set_self (by rw [numsV_length]; omega)])
  have HSETC := aside (show (numsV (cs.set k ⟨x'W, x'H, (x'L + mo)⟩)).set (k * 3 + 2) (.int .u64 ((x'L + mo) - 1)) = numsV (cs.set k ⟨x'W, x'H, (x'L + mo) - 1⟩) from HSETD.out _)
  have hgU : g < U.heap.size := (Array.getElem?_eq_some_iff.1 HG.out).1
  have hpU : w.heap.size + 1 + 1 + 1 + 1 < U.heap.size := (Array.getElem?_eq_some_iff.1 HP.out).1
  have hbU := (Below.refl U.heap.size U).alloc (Nat.le_refl _) (.cells #[.int .i64 1, .int .u64 0, .int .u64 0] 45)
  have HBX := aside (heap_alloc_new U (.cells #[.int .i64 1, .int .u64 0, .int .u64 0] 45))
  have MG := aside (heapOld U (.cells #[.int .i64 1, .int .u64 0, .int .u64 0] 45) _ _ HG.out)
  have MP := aside (heapOld U (.cells #[.int .i64 1, .int .u64 0, .int .u64 0] 45) _ _ HP.out)
  have MV := aside (heapOld U (.cells #[.int .i64 1, .int .u64 0, .int .u64 0] 45) _ _ HV.out)
  have MZ := aside (heapOld U (.cells #[.int .i64 1, .int .u64 0, .int .u64 0] 45) _ _ HZ.out)
  have MO := aside (own_keep HO.out hbU)
  have MB := aside (HB.out.trans (hbU.mono HB.out.size))
  have y2 : (U.alloc (.cells #[.int .i64 1, .int .u64 0, .int .u64 0] 45)).cell? ⟨g, k * 3 + 2, none⟩ = some (.int .u64 (x'L + mo)) := (cellOf MG.out _).trans (by rw [List.getElem?_toArray]; exact HGT2.out)
  have fy := frozenOf MG.out
  have fx := frozenOf HBX.out
  have x0 := cellOf HBX.out 0
  have x1 := cellOf HBX.out 1
  have x2 := cellOf HBX.out 2
  simp only [List.getElem?_toArray, List.getElem?_cons_zero, List.getElem?_cons_succ] at x0 x1 x2
  have hgx : ¬ g = U.heap.size := by omega
  have hxg : ¬ U.heap.size = g := by omega
  have hlp : decide (0 < (x'L + mo)) = false := decide_eq_false (by omega)
  have hlq := eq_false (by omega : ¬ 0 < (x'L + mo))
  clear hbU
  go_wp2_with fail
  clear y2 fx fy x0 x1 x2 HGT2
  have hgB := MG
  have hgP := MP
  have hgV := MV
  have hgZ := MZ
  have hgO := MO
  have hgN := HBX
  have hgB' := MB
  generalize U.alloc (.cells #[.int .i64 1, .int .u64 0, .int .u64 0] 45) = W5 at *
  clear MG MP MV MZ MO MB HBX
  obtain ⟨⟨p0, p1, p2⟩, p3, p4, p5, p6⟩ := cells7' (V := W5.drew) hgP
  obtain ⟨⟨z0, z1, z2⟩, z3, z4, z5, z6⟩ := cells7' (V := W5.drew) hgZ
  obtain ⟨⟨z0', z1', z2'⟩, z3', z4', z5', z6'⟩ := cells7' hgZ
  have v0 := cellOf hgV.out 0
  have v1 := cellOf hgV.out 1
  have v2 := cellOf hgV.out 2
  have n0 := cellOf (w := W5.drew) hgN.out 0
  have n1 := cellOf (w := W5.drew) hgN.out 1
  have n2 := cellOf (w := W5.drew) hgN.out 2
  have n0' := cellOf hgN.out 0
  have n1' := cellOf hgN.out 1
  have n2' := cellOf hgN.out 2
  have v0' := cellOf (w := W5.drew) hgV.out 0
  have v1' := cellOf (w := W5.drew) hgV.out 1
  have v2' := cellOf (w := W5.drew) hgV.out 2
  obtain ⟨⟨p0', p1', p2'⟩, p3', p4', p5', p6'⟩ := cells7' hgP
  have fz := frozenOf hgZ.out
  have fv := frozenOf hgV.out
  have fz' : ∀ i, W5.drew.frozen? ⟨_, i, none⟩ = false := fz
  have fv' : ∀ i, W5.drew.frozen? ⟨_, i, none⟩ = false := fv
  simp only [List.getElem?_toArray, List.getElem?_cons_zero, List.getElem?_cons_succ] at v0 v1 v2 n0 n1 n2 n0' n1' n2' v0' v1' v2'
  go_region
  have hwz : w.heap.size ≤ w.heap.size + 1 + 1 := by omega
  have hwv : w.heap.size ≤ w.heap.size + 1 + 1 + 1 := by omega
  have q1 : w.heap.size + 1 + 1 ≠ g := by omega
  have q2 : w.heap.size + 1 + 1 + 1 ≠ g := by omega
  have q3 : w.heap.size + 1 + 1 + 1 ≠ w.heap.size + 1 + 1 := by omega
  have q4 : w.heap.size + 1 + 1 ≠ w.heap.size + 1 + 1 + 1 := by omega
  have rZ := setOther (setOther (setOther (set7 hgZ.out (.string nm) (.int .u8 5) (.int .i64 aW) (.int .i64 aR) (.int .i64 aB) (.slice (some ⟨g, 0, none⟩) m m) (.slice (some ⟨b, 0, none⟩) m m)) (p := ⟨w.heap.size + 1 + 1 + 1, 0, none⟩) (v := .int .i64 1) q3) (p := ⟨w.heap.size + 1 + 1 + 1, 1, none⟩) (v := .int .u64 0) q3) (p := ⟨w.heap.size + 1 + 1 + 1, 2, none⟩) (v := .int .u64 0) q3
  have rV := set3 (setOther (setOther (setOther (setOther (setOther (setOther (setOther hgV.out (p := ⟨w.heap.size + 1 + 1, 0, none⟩) (v := .string nm) q4) (p := ⟨w.heap.size + 1 + 1, 1, none⟩) (v := .int .u8 5) q4) (p := ⟨w.heap.size + 1 + 1, 2, none⟩) (v := .int .i64 aW) q4) (p := ⟨w.heap.size + 1 + 1, 3, none⟩) (v := .int .i64 aR) q4) (p := ⟨w.heap.size + 1 + 1, 4, none⟩) (v := .int .i64 aB) q4) (p := ⟨w.heap.size + 1 + 1, 5, none⟩) (v := .slice (some ⟨g, 0, none⟩) m m) q4) (p := ⟨w.heap.size + 1 + 1, 6, none⟩) (v := .slice (some ⟨b, 0, none⟩) m m) q4) (.int .i64 1) (.int .u64 0) (.int .u64 0)
  have rG := setOther (setOther (setOther (setOther (setOther (setOther (setOther (setOther (setOther (setOther hgB.out (p := ⟨w.heap.size + 1 + 1, 0, none⟩) (v := .string nm) q1) (p := ⟨w.heap.size + 1 + 1, 1, none⟩) (v := .int .u8 5) q1) (p := ⟨w.heap.size + 1 + 1, 2, none⟩) (v := .int .i64 aW) q1) (p := ⟨w.heap.size + 1 + 1, 3, none⟩) (v := .int .i64 aR) q1) (p := ⟨w.heap.size + 1 + 1, 4, none⟩) (v := .int .i64 aB) q1) (p := ⟨w.heap.size + 1 + 1, 5, none⟩) (v := .slice (some ⟨g, 0, none⟩) m m) q1) (p := ⟨w.heap.size + 1 + 1, 6, none⟩) (v := .slice (some ⟨b, 0, none⟩) m m) q1) (p := ⟨w.heap.size + 1 + 1 + 1, 0, none⟩) (v := .int .i64 1) q2) (p := ⟨w.heap.size + 1 + 1 + 1, 1, none⟩) (v := .int .u64 0) q2) (p := ⟨w.heap.size + 1 + 1 + 1, 2, none⟩) (v := .int .u64 0) q2
  have rO := ((((((((((Foot.refl (fun i => i = w.heap.size + 1 + 1 ∨ i = w.heap.size + 1 + 1 + 1) W5).setCell (p := ⟨w.heap.size + 1 + 1, 0, none⟩) (.inl (.inl rfl)) (.string nm)).setCell (p := ⟨w.heap.size + 1 + 1, 1, none⟩) (.inl (.inl rfl)) (.int .u8 5)).setCell (p := ⟨w.heap.size + 1 + 1, 2, none⟩) (.inl (.inl rfl)) (.int .i64 aW)).setCell (p := ⟨w.heap.size + 1 + 1, 3, none⟩) (.inl (.inl rfl)) (.int .i64 aR)).setCell (p := ⟨w.heap.size + 1 + 1, 4, none⟩) (.inl (.inl rfl)) (.int .i64 aB)).setCell (p := ⟨w.heap.size + 1 + 1, 5, none⟩) (.inl (.inl rfl)) (.slice (some ⟨g, 0, none⟩) m m)).setCell (p := ⟨w.heap.size + 1 + 1, 6, none⟩) (.inl (.inl rfl)) (.slice (some ⟨b, 0, none⟩) m m)).setCell (p := ⟨w.heap.size + 1 + 1 + 1, 0, none⟩) (.inl (.inr rfl)) (.int .i64 1)).setCell (p := ⟨w.heap.size + 1 + 1 + 1, 1, none⟩) (.inl (.inr rfl)) (.int .u64 0)).setCell (p := ⟨w.heap.size + 1 + 1 + 1, 2, none⟩) (.inl (.inr rfl)) (.int .u64 0) |>.own hgO.out (fun j hj h => by cases hj; rcases h with h | h <;> (have h' : b = _ := h; omega))
  have rB := (((((((((hgB'.out.setCell (p := ⟨w.heap.size + 1 + 1, 0, none⟩) hwz (.string nm)).setCell (p := ⟨w.heap.size + 1 + 1, 1, none⟩) hwz (.int .u8 5)).setCell (p := ⟨w.heap.size + 1 + 1, 2, none⟩) hwz (.int .i64 aW)).setCell (p := ⟨w.heap.size + 1 + 1, 3, none⟩) hwz (.int .i64 aR)).setCell (p := ⟨w.heap.size + 1 + 1, 4, none⟩) hwz (.int .i64 aB)).setCell (p := ⟨w.heap.size + 1 + 1, 5, none⟩) hwz (.slice (some ⟨g, 0, none⟩) m m)).setCell (p := ⟨w.heap.size + 1 + 1, 6, none⟩) hwz (.slice (some ⟨b, 0, none⟩) m m)).setCell (p := ⟨w.heap.size + 1 + 1 + 1, 0, none⟩) hwv (.int .i64 1)).setCell (p := ⟨w.heap.size + 1 + 1 + 1, 1, none⟩) hwv (.int .u64 0)).setCell (p := ⟨w.heap.size + 1 + 1 + 1, 2, none⟩) hwv (.int .u64 0)
  go_wp2
  have rZ' := heap_drew rZ
  have rV' := heap_drew rV
  have rG' := heap_drew rG
  have rO' := own_drew' rO
  have rB' := rB.drew
  clear rZ rV rG rO rB q1 q2 q3 q4 hgB hgP hgV hgZ hgO hgN hgB'
  refine bodyPost_ret (results_cct rfl _ _ (w.heap.size + 1 + 1) (w.heap.size + 1 + 1 + 1) 38 45 _ _ (0, 0) (0, 0) _ _ rfl rZ' Try.underlying38 rfl (by kernel_rfl) rfl rV' Try.underlying45 rfl (by kernel_rfl)) rfl ?_
  refine ⟨g, some ⟨b, 0, none⟩, c', ?_, ?_, ?_, ?_, ?_⟩
  · rfl
  · omega
  · exact rG'
  · exact rO'
  · exact rB'
set_option maxRecDepth 100000 in
set_option maxHeartbeats 3200000 in
theorem Meter_go111 (a : Arr) (ho : a.ok) (hkd : a.kd = 5) (A : Option Addr) (n c : Nat) (B : Option Addr) (m d k : Nat) (hBd : B = none → d = 0) (x'W x'H x'L : Int) (hxx : a.cs.getD k zeroNum = ⟨x'W, x'H, x'L⟩) (last now : Int) (hll : a.ls.getD k 0 = last) (hn0 : 0 ≤ now) (hn1 : now ≤ 9223372036854775807) (hgt : last < now) (hq : a.Burst < now - last) (mo : Int) (hmo : IntKind.u64.wrap (a.Burst * a.Rate) = mo) (hmo0 : 0 ≤ mo) (hmo1 : mo ≤ 4294836225) (hl : a.Burst < x'L + mo) (lo : Int) (hlo_ : lo = a.Burst) (hpos : 0 < lo) (x : Num) (hxw : x.wf) (hxo : x.ok) (hx0 : x.Hi = 0) (hxk : x.Lo = (k : Int)) (hk : k < n) (w : World) (hR : ReadsNums w A n a.cs) (hS : Reads w .i64 B m a.ls) :
    Calls Try.prog 18 #[.agg (a.vals A n c B m d), x.v, .int .i64 now] w fun e w' => ∃ g B' c', e = .returned (.tuple #[.agg ({ a with cs := a.cs.set k ⟨x'W, x'H, (lo - 1)⟩, ls := a.ls.set k now }.vals (some ⟨g, 0, none⟩) n n B' m m), .agg #[.int .i64 1, .int .u64 0, .int .u64 1], .int .i64 0]) ∧ w.heap.size ≤ g ∧ w'.heap[g]? = some (.cells (numsV (a.cs.set k ⟨x'W, x'H, (lo - 1)⟩)).toArray 45 (0, 0)) ∧ w'.ownsRow (g + 1) 3 1 (.slice B' m c') m (nums .i64 (a.ls.set k now)) ∧ Below w.heap.size w w' := by
  obtain ⟨HP, HV, HZ, HA, HBW⟩ := box_meter w (a.vals A n c B m d) #[.int .i64 x.W, .int .u64 x.Hi, .int .u64 x.Lo] zeroVals #[.int .i64 0, .int .u64 0, .int .u64 0] (a.vals A n c B m d) 38 45 38 45 63 _ rfl
  have HC := aside (cell_own' a ho A n c B m d (w.heap.size + 1 + 1 + 1 + 1) k hBd x hxw hxo hx0 hxk hk w _ HBW.out.1 hR hS HP.out (by omega))
  have hkl : k < a.cs.length := by rw [hR.1]; exact hk
  have hsc := ho.scal.2.2.2 hkd
  have hln := ho.len
  have hcell := ho.cells k hkl
  rw [hxx] at hcell
  have hlo := hcell.2.2.2 hkd
  have hlo0 := hcell.1.2.2.1
  have hla0 := ho.last k (by rw [hsc.2.2.2.2]; exact hkl)
  rw [hll] at hla0
  have hml : a.ls.length = m := hS.1
  have hnl : a.cs.length = n := hR.1
  have hmn : m = n := by rw [← hml, ← hnl]; exact hsc.2.2.2.2
  have HGET := aside (numsV_get a.cs k hkl)
  rw [hxx] at HGET
  have HSETA := aside (fun lo => by have := numsV_set2 a.cs k hkl lo; rwa [hxx] at this : ∀ lo, (numsV a.cs).set (k * 3 + 2) (.int .u64 lo) = numsV (a.cs.set k ⟨x'W, x'H, lo⟩))
  have HLL := aside hll
  have HXX := aside hxx
  clear hR hS hxw hxo hxx hcell hll
  obtain ⟨xW, xh, xl⟩ := x
  obtain ⟨nm, kd, aW, aR, aB, cs, ls⟩ := a
  simp only [Num.v, Arr.vals, zeroVals] at *
  subst hx0 hxk hkd hmn
  obtain ⟨r0, r1, b0, b1, _⟩ := hsc
  clear ho
  go_enter Try.func18, Try.ntmps18
  go_wp2_with fail
  refine Calls.mono HC.out ?_
  rintro e w1 ⟨g, B', rfl, hg0, hg1, hp1, ⟨c', hO⟩, hF1⟩
  obtain ⟨hbw, hsz⟩ := HBW.out
  replace HV := aside (hF1.blk HV.out (by omega))
  replace HZ := aside (hF1.blk HZ.out (by omega))
  replace HA := aside (hF1.blk HA.out (by omega))
  have HB := aside (hbw.trans (hF1.below (fun i hi => by omega) hbw.size))
  obtain ⟨b, c'', hB', hb0, hb1, hb2, hb3⟩ := own_some hO (by omega)
  cases hB'
  have HP := aside hp1
  have HG := aside hg1
  have HO := aside hO
  have hnow : decide (now < 0) = false := decide_eq_false (by omega)
  have hk0 : (0 : Int) ≤ (k : Int) := by omega
  have hk1 : (k : Int) < (m : Int) := by omega
  have l0 : w1.cell? ⟨b, k, none⟩ = some (.int .i64 last) := by rw [own_at hO k hk, HLL.out]
  obtain ⟨⟨p0, p1, p2⟩, p3, p4, p5, p6⟩ := cells7' HP
  obtain ⟨⟨a0, a1, a2⟩, a3, a4, a5, a6⟩ := cells7' HA
  have hd : decide (last < now) = true := decide_eq_true (by omega)
  have hd0 := eq_true (by omega : last < now)
  clear hp1 hg1 hO hF1 HC
  have hqd : decide (aB < now - last) = true := decide_eq_true (by omega)
  have hqt := eq_true (by omega : aB < now - last)
  have hld : decide (aB < x'L + mo) = true := decide_eq_true (by omega)
  have hlt := eq_true (by omega : aB < x'L + mo)
  go_wp2_with fail
  go_region
  have g2 : w1.cell? ⟨g, k * 3 + 2, none⟩ = some (.int .u64 x'L) := (cellOf HG.out _).trans (by rw [List.getElem?_toArray]; exact HGET.out.2.2)
  have g2' : w1.drew.cell? ⟨g, k * 3 + 2, none⟩ = some (.int .u64 x'L) := g2
  have fg := frozenOf HG.out
  have fg' : ∀ i, w1.drew.frozen? ⟨g, i, none⟩ = false := fg
  have l0' : w1.drew.cell? ⟨b, k, none⟩ = some (.int .i64 last) := l0
  have fb : w1.frozen? ⟨b, k, none⟩ = false := own_frozen HO.out k
  have fb' : w1.drew.frozen? ⟨b, k, none⟩ = false := fb
  have a4' : w1.drew.cell? ⟨w.heap.size, 4, none⟩ = some (.int .i64 aB) := a4
  have hbg : ¬ b = g := by omega
  have hgb : ¬ g = b := by omega
  go_wp2_with fail
  go_region
  clear g2 g2' fg fg' l0 l0' fb fb' a4' a0 a1 a2 a3 a4 a5 a6 p0 p1 p2 p3 p4 p5 p6 hqd hqt hld hlt
  have hlo2 := hlo_.symm
  subst hlo2
  have n1 : g ≠ w.heap.size + 1 + 1 + 1 + 1 := by omega
  have n2 : b ≠ w.heap.size + 1 + 1 + 1 + 1 := by omega
  have n3 : g ≠ w.heap.size + 1 + 1 + 1 := by omega
  have n4 : b ≠ w.heap.size + 1 + 1 + 1 := by omega
  have n5 : g ≠ w.heap.size + 1 + 1 := by omega
  have n6 : b ≠ w.heap.size + 1 + 1 := by omega
  have mG := setOther (setCell_heap HG.out (k * 3 + 2) (.int .u64 aB)) (p := ⟨b, k, none⟩) (v := .int .i64 now) hbg
  rw [List.setIfInBounds_toArray, HSETA.out] at mG
  have mO := own_put (((Foot.refl (fun i => i = g) w1).setCell (p := ⟨g, k * 3 + 2, none⟩) (.inl rfl) (.int .u64 aB)).own HO.out (fun j hj h => by cases hj; exact hbg h)) k now
  have mP := setOther (setOther HP.out (p := ⟨g, k * 3 + 2, none⟩) (v := .int .u64 aB) n1) (p := ⟨b, k, none⟩) (v := .int .i64 now) n2
  have mV := setOther (setOther HV.out (p := ⟨g, k * 3 + 2, none⟩) (v := .int .u64 aB) n3) (p := ⟨b, k, none⟩) (v := .int .i64 now) n4
  have mZ := setOther (setOther HZ.out (p := ⟨g, k * 3 + 2, none⟩) (v := .int .u64 aB) n5) (p := ⟨b, k, none⟩) (v := .int .i64 now) n6
  have mB := (HB.out.setCell (p := ⟨g, k * 3 + 2, none⟩) (show w.heap.size ≤ g by omega) (.int .u64 aB)).setCell (p := ⟨b, k, none⟩) (show w.heap.size ≤ b by omega) (.int .i64 now)
  have hU1 : (((w1.setCell ⟨g, k * 3 + 2, none⟩ (.int .u64 aB)).setCell ⟨b, k, none⟩ (.int .i64 now)).drew.drew).heap = ((w1.setCell ⟨g, k * 3 + 2, none⟩ (.int .u64 aB)).setCell ⟨b, k, none⟩ (.int .i64 now)).heap := rfl
  replace HG := aside ((congrArg (fun (h : Array Obj) => h[g]?) hU1).trans mG)
  replace HP := aside ((congrArg (fun (h : Array Obj) => h[w.heap.size + 1 + 1 + 1 + 1]?) hU1).trans mP)
  replace HV := aside ((congrArg (fun (h : Array Obj) => h[w.heap.size + 1 + 1 + 1]?) hU1).trans mV)
  replace HZ := aside ((congrArg (fun (h : Array Obj) => h[w.heap.size + 1 + 1]?) hU1).trans mZ)
  replace HO := aside (show (((w1.setCell ⟨g, k * 3 + 2, none⟩ (.int .u64 aB)).setCell ⟨b, k, none⟩ (.int .i64 now)).drew.drew).ownsRow (g + 1) 3 1 (.slice (some ⟨b, 0, none⟩) m c') m (nums .i64 (ls.set k now)) from mO)
  replace HB := aside mB.drew.drew
  clear mG mO mP mV mZ mB hU1 HA n1 n2 n3 n4 n5 n6
  generalize (((w1.setCell ⟨g, k * 3 + 2, none⟩ (.int .u64 aB)).setCell ⟨b, k, none⟩ (.int .i64 now)).drew.drew) = U at *
  have HSETB := aside (numsV_set2 (cs.set k ⟨x'W, x'H, aB⟩) k (by simpa using hkl))
  have HSETD := aside (fun lo2 => numsV_set3 cs k hkl x'W x'H aB lo2)
  have HGT2 := aside (show (numsV (cs.set k ⟨x'W, x'H, aB⟩))[k * 3 + 2]? = some (.int .u64 aB) by rw [← HSETA.out, List.getElem?_set_self (by rw [numsV_length]; omega)])
  have HSETC := aside (show (numsV (cs.set k ⟨x'W, x'H, aB⟩)).set (k * 3 + 2) (.int .u64 (aB - 1)) = numsV (cs.set k ⟨x'W, x'H, aB - 1⟩) from HSETD.out _)
  have hgU : g < U.heap.size := (Array.getElem?_eq_some_iff.1 HG.out).1
  have hpU : w.heap.size + 1 + 1 + 1 + 1 < U.heap.size := (Array.getElem?_eq_some_iff.1 HP.out).1
  have hbU := (Below.refl U.heap.size U).alloc (Nat.le_refl _) (.cells #[.int .i64 1, .int .u64 0, .int .u64 0] 45)
  have HBX := aside (heap_alloc_new U (.cells #[.int .i64 1, .int .u64 0, .int .u64 0] 45))
  have MG := aside (heapOld U (.cells #[.int .i64 1, .int .u64 0, .int .u64 0] 45) _ _ HG.out)
  have MP := aside (heapOld U (.cells #[.int .i64 1, .int .u64 0, .int .u64 0] 45) _ _ HP.out)
  have MV := aside (heapOld U (.cells #[.int .i64 1, .int .u64 0, .int .u64 0] 45) _ _ HV.out)
  have MZ := aside (heapOld U (.cells #[.int .i64 1, .int .u64 0, .int .u64 0] 45) _ _ HZ.out)
  have MO := aside (own_keep HO.out hbU)
  have MB := aside (HB.out.trans (hbU.mono HB.out.size))
  have y2 : (U.alloc (.cells #[.int .i64 1, .int .u64 0, .int .u64 0] 45)).cell? ⟨g, k * 3 + 2, none⟩ = some (.int .u64 aB) := (cellOf MG.out _).trans (by rw [List.getElem?_toArray]; exact HGT2.out)
  have fy := frozenOf MG.out
  have fx := frozenOf HBX.out
  have x0 := cellOf HBX.out 0
  have x1 := cellOf HBX.out 1
  have x2 := cellOf HBX.out 2
  simp only [List.getElem?_toArray, List.getElem?_cons_zero, List.getElem?_cons_succ] at x0 x1 x2
  have hgx : ¬ g = U.heap.size := by omega
  have hxg : ¬ U.heap.size = g := by omega
  have hlp : decide (0 < aB) = true := decide_eq_true (by omega)
  have hlq := eq_true (by omega : 0 < aB)
  clear hbU
  go_wp2_with fail
  clear y2 fx fy x0 x1 x2 HGT2
  have hgB : Aside (((U.setCell ⟨g, k * 3 + 2, none⟩ (.int .u64 (aB - 1))).alloc (.cells #[.int .i64 1, .int .u64 0, .int .u64 1] 45)).heap[g]? = some (.cells (numsV (cs.set k ⟨x'W, x'H, aB - 1⟩)).toArray 45 (0, 0))) := by
    have h := setCell_heap HG.out (k * 3 + 2) (.int .u64 (aB - 1))
    rw [List.setIfInBounds_toArray, HSETC.out] at h
    exact heapOld _ _ _ _ h
  have hgP := aside (heapOld _ (.cells #[.int .i64 1, .int .u64 0, .int .u64 1] 45) _ _ (setOther HP.out (p := ⟨g, k * 3 + 2, none⟩) (v := .int .u64 (aB - 1)) (show g ≠ w.heap.size + 1 + 1 + 1 + 1 by omega)))
  have hgV := aside (heapOld _ (.cells #[.int .i64 1, .int .u64 0, .int .u64 1] 45) _ _ (setOther HV.out (p := ⟨g, k * 3 + 2, none⟩) (v := .int .u64 (aB - 1)) (show g ≠ w.heap.size + 1 + 1 + 1 by omega)))
  have hgZ := aside (heapOld _ (.cells #[.int .i64 1, .int .u64 0, .int .u64 1] 45) _ _ (setOther HZ.out (p := ⟨g, k * 3 + 2, none⟩) (v := .int .u64 (aB - 1)) (show g ≠ w.heap.size + 1 + 1 by omega)))
  have hgO := aside (own_keep (((Foot.refl (fun i => i = g) U).setCell (p := ⟨g, k * 3 + 2, none⟩) (.inl rfl) (.int .u64 (aB - 1))).own HO.out (fun j hj h => by cases hj; exact hbg h)) ((Below.refl _ _).alloc (Nat.le_refl _) (.cells #[.int .i64 1, .int .u64 0, .int .u64 1] 45)))
  have hgN := aside (heapLit (U.setCell ⟨g, k * 3 + 2, none⟩ (.int .u64 (aB - 1))) #[.int .i64 1, .int .u64 0, .int .u64 1] 45 U.heap.size (by simp [World.setCell]))
  have hgB' := aside ((HB.out.setCell (p := ⟨g, k * 3 + 2, none⟩) (show w.heap.size ≤ g by omega) (.int .u64 (aB - 1))).alloc (HB.out.setCell (p := ⟨g, k * 3 + 2, none⟩) (show w.heap.size ≤ g by omega) (.int .u64 (aB - 1))).size (.cells #[.int .i64 1, .int .u64 0, .int .u64 1] 45))
  generalize (U.setCell ⟨g, k * 3 + 2, none⟩ (.int .u64 (aB - 1))).alloc (.cells #[.int .i64 1, .int .u64 0, .int .u64 1] 45) = W5 at *
  clear MG MP MV MZ MO MB HBX
  obtain ⟨⟨p0, p1, p2⟩, p3, p4, p5, p6⟩ := cells7' (V := W5.drew) hgP
  obtain ⟨⟨z0, z1, z2⟩, z3, z4, z5, z6⟩ := cells7' (V := W5.drew) hgZ
  obtain ⟨⟨z0', z1', z2'⟩, z3', z4', z5', z6'⟩ := cells7' hgZ
  have v0 := cellOf hgV.out 0
  have v1 := cellOf hgV.out 1
  have v2 := cellOf hgV.out 2
  have n0 := cellOf (w := W5.drew) hgN.out 0
  have n1 := cellOf (w := W5.drew) hgN.out 1
  have n2 := cellOf (w := W5.drew) hgN.out 2
  have n0' := cellOf hgN.out 0
  have n1' := cellOf hgN.out 1
  have n2' := cellOf hgN.out 2
  have v0' := cellOf (w := W5.drew) hgV.out 0
  have v1' := cellOf (w := W5.drew) hgV.out 1
  have v2' := cellOf (w := W5.drew) hgV.out 2
  obtain ⟨⟨p0', p1', p2'⟩, p3', p4', p5', p6'⟩ := cells7' hgP
  have fz := frozenOf hgZ.out
  have fv := frozenOf hgV.out
  have fz' : ∀ i, W5.drew.frozen? ⟨_, i, none⟩ = false := fz
  have fv' : ∀ i, W5.drew.frozen? ⟨_, i, none⟩ = false := fv
  simp only [List.getElem?_toArray, List.getElem?_cons_zero, List.getElem?_cons_succ] at v0 v1 v2 n0 n1 n2 n0' n1' n2' v0' v1' v2'
  go_region
  have hwz : w.heap.size ≤ w.heap.size + 1 + 1 := by omega
  have hwv : w.heap.size ≤ w.heap.size + 1 + 1 + 1 := by omega
  have q1 : w.heap.size + 1 + 1 ≠ g := by omega
  have q2 : w.heap.size + 1 + 1 + 1 ≠ g := by omega
  have q3 : w.heap.size + 1 + 1 + 1 ≠ w.heap.size + 1 + 1 := by omega
  have q4 : w.heap.size + 1 + 1 ≠ w.heap.size + 1 + 1 + 1 := by omega
  have rZ := setOther (setOther (setOther (set7 hgZ.out (.string nm) (.int .u8 5) (.int .i64 aW) (.int .i64 aR) (.int .i64 aB) (.slice (some ⟨g, 0, none⟩) m m) (.slice (some ⟨b, 0, none⟩) m m)) (p := ⟨w.heap.size + 1 + 1 + 1, 0, none⟩) (v := .int .i64 1) q3) (p := ⟨w.heap.size + 1 + 1 + 1, 1, none⟩) (v := .int .u64 0) q3) (p := ⟨w.heap.size + 1 + 1 + 1, 2, none⟩) (v := .int .u64 1) q3
  have rV := set3 (setOther (setOther (setOther (setOther (setOther (setOther (setOther hgV.out (p := ⟨w.heap.size + 1 + 1, 0, none⟩) (v := .string nm) q4) (p := ⟨w.heap.size + 1 + 1, 1, none⟩) (v := .int .u8 5) q4) (p := ⟨w.heap.size + 1 + 1, 2, none⟩) (v := .int .i64 aW) q4) (p := ⟨w.heap.size + 1 + 1, 3, none⟩) (v := .int .i64 aR) q4) (p := ⟨w.heap.size + 1 + 1, 4, none⟩) (v := .int .i64 aB) q4) (p := ⟨w.heap.size + 1 + 1, 5, none⟩) (v := .slice (some ⟨g, 0, none⟩) m m) q4) (p := ⟨w.heap.size + 1 + 1, 6, none⟩) (v := .slice (some ⟨b, 0, none⟩) m m) q4) (.int .i64 1) (.int .u64 0) (.int .u64 1)
  have rG := setOther (setOther (setOther (setOther (setOther (setOther (setOther (setOther (setOther (setOther hgB.out (p := ⟨w.heap.size + 1 + 1, 0, none⟩) (v := .string nm) q1) (p := ⟨w.heap.size + 1 + 1, 1, none⟩) (v := .int .u8 5) q1) (p := ⟨w.heap.size + 1 + 1, 2, none⟩) (v := .int .i64 aW) q1) (p := ⟨w.heap.size + 1 + 1, 3, none⟩) (v := .int .i64 aR) q1) (p := ⟨w.heap.size + 1 + 1, 4, none⟩) (v := .int .i64 aB) q1) (p := ⟨w.heap.size + 1 + 1, 5, none⟩) (v := .slice (some ⟨g, 0, none⟩) m m) q1) (p := ⟨w.heap.size + 1 + 1, 6, none⟩) (v := .slice (some ⟨b, 0, none⟩) m m) q1) (p := ⟨w.heap.size + 1 + 1 + 1, 0, none⟩) (v := .int .i64 1) q2) (p := ⟨w.heap.size + 1 + 1 + 1, 1, none⟩) (v := .int .u64 0) q2) (p := ⟨w.heap.size + 1 + 1 + 1, 2, none⟩) (v := .int .u64 1) q2
  have rO := ((((((((((Foot.refl (fun i => i = w.heap.size + 1 + 1 ∨ i = w.heap.size + 1 + 1 + 1) W5).setCell (p := ⟨w.heap.size + 1 + 1, 0, none⟩) (.inl (.inl rfl)) (.string nm)).setCell (p := ⟨w.heap.size + 1 + 1, 1, none⟩) (.inl (.inl rfl)) (.int .u8 5)).setCell (p := ⟨w.heap.size + 1 + 1, 2, none⟩) (.inl (.inl rfl)) (.int .i64 aW)).setCell (p := ⟨w.heap.size + 1 + 1, 3, none⟩) (.inl (.inl rfl)) (.int .i64 aR)).setCell (p := ⟨w.heap.size + 1 + 1, 4, none⟩) (.inl (.inl rfl)) (.int .i64 aB)).setCell (p := ⟨w.heap.size + 1 + 1, 5, none⟩) (.inl (.inl rfl)) (.slice (some ⟨g, 0, none⟩) m m)).setCell (p := ⟨w.heap.size + 1 + 1, 6, none⟩) (.inl (.inl rfl)) (.slice (some ⟨b, 0, none⟩) m m)).setCell (p := ⟨w.heap.size + 1 + 1 + 1, 0, none⟩) (.inl (.inr rfl)) (.int .i64 1)).setCell (p := ⟨w.heap.size + 1 + 1 + 1, 1, none⟩) (.inl (.inr rfl)) (.int .u64 0)).setCell (p := ⟨w.heap.size + 1 + 1 + 1, 2, none⟩) (.inl (.inr rfl)) (.int .u64 1) |>.own hgO.out (fun j hj h => by cases hj; rcases h with h | h <;> (have h' : b = _ := h; omega))
  have rB := (((((((((hgB'.out.setCell (p := ⟨w.heap.size + 1 + 1, 0, none⟩) hwz (.string nm)).setCell (p := ⟨w.heap.size + 1 + 1, 1, none⟩) hwz (.int .u8 5)).setCell (p := ⟨w.heap.size + 1 + 1, 2, none⟩) hwz (.int .i64 aW)).setCell (p := ⟨w.heap.size + 1 + 1, 3, none⟩) hwz (.int .i64 aR)).setCell (p := ⟨w.heap.size + 1 + 1, 4, none⟩) hwz (.int .i64 aB)).setCell (p := ⟨w.heap.size + 1 + 1, 5, none⟩) hwz (.slice (some ⟨g, 0, none⟩) m m)).setCell (p := ⟨w.heap.size + 1 + 1, 6, none⟩) hwz (.slice (some ⟨b, 0, none⟩) m m)).setCell (p := ⟨w.heap.size + 1 + 1 + 1, 0, none⟩) hwv (.int .i64 1)).setCell (p := ⟨w.heap.size + 1 + 1 + 1, 1, none⟩) hwv (.int .u64 0)).setCell (p := ⟨w.heap.size + 1 + 1 + 1, 2, none⟩) hwv (.int .u64 1)
  go_wp2
  have rZ' := heap_drew rZ
  have rV' := heap_drew rV
  have rG' := heap_drew rG
  have rO' := own_drew' rO
  have rB' := rB.drew
  clear rZ rV rG rO rB q1 q2 q3 q4 hgB hgP hgV hgZ hgO hgN hgB'
  refine bodyPost_ret (results_cct rfl _ _ (w.heap.size + 1 + 1) (w.heap.size + 1 + 1 + 1) 38 45 _ _ (0, 0) (0, 0) _ _ rfl rZ' Try.underlying38 rfl (by kernel_rfl) rfl rV' Try.underlying45 rfl (by kernel_rfl)) rfl ?_
  refine ⟨g, some ⟨b, 0, none⟩, c', ?_, ?_, ?_, ?_, ?_⟩
  · rfl
  · omega
  · exact rG'
  · exact rO'
  · exact rB'
end Go.Proofs.Ytanimonhnngfkaa.Own

/- cells.Meter, of any array of meters, in one law. -/
set_option linter.unusedVariables false
set_option linter.unusedSimpArgs false
namespace Go.Proofs.Ytanimonhnngfkaa.Own
open Go.RowKit

/-- What came in since. -/
def meterMore (last now R Bu : Int) : Int := (if Bu < now - last then Bu else now - last) * R
/-- The tokens at a tick. -/
def meterLo (lo last now R Bu : Int) : Int := if last < now then (if Bu < lo + meterMore last now R Bu then Bu else lo + meterMore last now R Bu) else lo
theorem more_range (last now R Bu : Int) (h : last < now) (hR : 0 ≤ R ∧ R ≤ 65535) (hB : 1 ≤ Bu ∧ Bu ≤ 65535) : 0 ≤ meterMore last now R Bu ∧ meterMore last now R Bu ≤ 4294836225 := by
  unfold meterMore
  obtain ⟨q, hq⟩ : ∃ q, q = (if Bu < now - last then Bu else now - last) := ⟨_, rfl⟩
  rw [← hq]
  have h1 : 0 ≤ q ∧ q ≤ 65535 := by rw [hq]; split <;> omega
  refine ⟨Int.mul_nonneg h1.1 hR.1, ?_⟩
  have := Int.mul_le_mul h1.2 hR.2 hR.1 (by omega : (0 : Int) ≤ 65535)
  omega
theorem Meter_any (a : Arr) (ho : a.ok) (hkd : a.kd = 5) (A : Option Addr) (n c : Nat) (B : Option Addr) (m d k : Nat) (hBd : B = none → d = 0) (x'W x'H x'L : Int) (hxx : a.cs.getD k zeroNum = ⟨x'W, x'H, x'L⟩) (last now : Int) (hll : a.ls.getD k 0 = last) (hn0 : 0 ≤ now) (hn1 : now ≤ 9223372036854775807) (lo : Int) (hlo : lo = meterLo x'L last now a.Rate a.Burst) (x : Num) (hxw : x.wf) (hxo : x.ok) (hx0 : x.Hi = 0) (hxk : x.Lo = (k : Int)) (hk : k < n) (w : World) (hR : ReadsNums w A n a.cs) (hS : Reads w .i64 B m a.ls) :
    Calls Try.prog 18 #[.agg (a.vals A n c B m d), x.v, .int .i64 now] w fun e w' => ∃ g B' c', e = .returned (.tuple #[.agg ({ a with cs := a.cs.set k ⟨x'W, x'H, if 0 < lo then lo - 1 else lo⟩, ls := a.ls.set k (if last < now then now else last) }.vals (some ⟨g, 0, none⟩) n n B' m m), .agg #[.int .i64 1, .int .u64 0, .int .u64 (if 0 < lo then 1 else 0)], .int .i64 0]) ∧ w.heap.size ≤ g ∧ w'.heap[g]? = some (.cells (numsV (a.cs.set k ⟨x'W, x'H, if 0 < lo then lo - 1 else lo⟩)).toArray 45 (0, 0)) ∧ w'.ownsRow (g + 1) 3 1 (.slice B' m c') m (nums .i64 (a.ls.set k (if last < now then now else last))) ∧ Below w.heap.size w w' := by
  by_cases hgt : last < now
  · have hsc := ho.scal.2.2.2 hkd
    have hmr := more_range last now a.Rate a.Burst hgt ⟨hsc.1, hsc.2.1⟩ ⟨hsc.2.2.1, hsc.2.2.2.1⟩
    rw [if_pos hgt]
    unfold meterLo at hlo
    rw [if_pos hgt] at hlo
    have hw : ∀ q, 0 ≤ q → q ≤ 4294836225 → IntKind.u64.wrap q = q := fun q h0 h1 => by rw [IntKind.wrap_u64]; omega
    by_cases hq : a.Burst < now - last
    · have hm : meterMore last now a.Rate a.Burst = a.Burst * a.Rate := by unfold meterMore; rw [if_pos hq]
      rw [hm] at hmr hlo
      by_cases hl : a.Burst < x'L + a.Burst * a.Rate
      · rw [if_pos hl] at hlo
        have hp : 0 < lo := by omega
        rw [if_pos hp, if_pos hp]
        exact Meter_go111 a ho hkd A n c B m d k hBd x'W x'H x'L hxx last now hll hn0 hn1 hgt hq _ (hw _ hmr.1 hmr.2) hmr.1 hmr.2 hl lo hlo hp x hxw hxo hx0 hxk hk w hR hS
      · rw [if_neg hl] at hlo
        by_cases hp : 0 < lo
        · rw [if_pos hp, if_pos hp]
          exact Meter_go101 a ho hkd A n c B m d k hBd x'W x'H x'L hxx last now hll hn0 hn1 hgt hq _ (hw _ hmr.1 hmr.2) hmr.1 hmr.2 hl lo hlo hp x hxw hxo hx0 hxk hk w hR hS
        · rw [if_neg hp, if_neg hp]
          exact Meter_go100 a ho hkd A n c B m d k hBd x'W x'H x'L hxx last now hll hn0 hn1 hgt hq _ (hw _ hmr.1 hmr.2) hmr.1 hmr.2 hl lo hlo hp x hxw hxo hx0 hxk hk w hR hS
    · have hm : meterMore last now a.Rate a.Burst = (now - last) * a.Rate := by unfold meterMore; rw [if_neg hq]
      rw [hm] at hmr hlo
      by_cases hl : a.Burst < x'L + (now - last) * a.Rate
      · rw [if_pos hl] at hlo
        have hp : 0 < lo := by omega
        rw [if_pos hp, if_pos hp]
        exact Meter_go011 a ho hkd A n c B m d k hBd x'W x'H x'L hxx last now hll hn0 hn1 hgt hq _ (hw _ hmr.1 hmr.2) hmr.1 hmr.2 hl lo hlo hp x hxw hxo hx0 hxk hk w hR hS
      · rw [if_neg hl] at hlo
        by_cases hp : 0 < lo
        · rw [if_pos hp, if_pos hp]
          exact Meter_go001 a ho hkd A n c B m d k hBd x'W x'H x'L hxx last now hll hn0 hn1 hgt hq _ (hw _ hmr.1 hmr.2) hmr.1 hmr.2 hl lo hlo hp x hxw hxo hx0 hxk hk w hR hS
        · rw [if_neg hp, if_neg hp]
          exact Meter_go000 a ho hkd A n c B m d k hBd x'W x'H x'L hxx last now hll hn0 hn1 hgt hq _ (hw _ hmr.1 hmr.2) hmr.1 hmr.2 hl lo hlo hp x hxw hxo hx0 hxk hk w hR hS
  · rw [if_neg hgt]
    unfold meterLo at hlo
    rw [if_neg hgt] at hlo
    by_cases hp : 0 < lo
    · rw [if_pos hp, if_pos hp]
      exact Meter_st1 a ho hkd A n c B m d k hBd x'W x'H x'L hxx last now hll hn0 hn1 hgt lo hlo hp x hxw hxo hx0 hxk hk w hR hS
    · rw [if_neg hp, if_neg hp]
      exact Meter_st0 a ho hkd A n c B m d k hBd x'W x'H x'L hxx last now hll hn0 hn1 hgt lo hlo hp x hxw hxo hx0 hxk hk w hR hS
end Go.Proofs.Ytanimonhnngfkaa.Own

/- cells.Random. -/
set_option linter.unusedVariables false
set_option linter.unusedSimpArgs false
namespace Go.Proofs.Ytanimonhnngfkaa.Own
open Go.RowKit

/-- The next number behind one. -/
def nextR (x : Int) : Int := IntKind.u64.wrap (IntKind.u64.wrap (x * 6364136223846793005) + 1442695040888963407)
theorem step_any (x : Int) (w : World) : Calls Try.prog 22 #[.int .u64 x] w fun e w' => e = .returned (.int .u64 (nextR x)) ∧ w = w' := by
  unfold nextR
  go_enter Try.func22, Try.ntmps22
  go_wp2
  go_ret
  exact ⟨rfl, rfl⟩
theorem nextR_range (x : Int) : 0 ≤ nextR x ∧ nextR x ≤ 18446744073709551615 := by
  unfold nextR
  rw [IntKind.wrap_u64]
  omega
set_option maxRecDepth 100000 in
set_option maxHeartbeats 800000 in
theorem Random_ok (x : Int) (n : Nat) (h1 : 1 ≤ n) (h2 : n ≤ 128) (w : World) :
    Calls Try.prog 11 #[.int .u64 x, .int .i64 (n : Int)] w fun e w' => e = .returned (.tuple #[.agg #[.int .i64 (n : Int), .int .u64 (cutHi n (nextR x)), .int .u64 (cutLo n (nextR (nextR x)))], .int .u64 (nextR (nextR x))]) ∧ Below w.heap.size w w' := by
  have HS1 := aside (fun V => step_any x V)
  have HS2 := aside (fun V => step_any (nextR x) V)
  have HO := aside (fun V => of_any n (nextR x) (nextR (nextR x)) V h1 h2 (nextR_range _) (nextR_range _))
  unfold bitsV at HO
  generalize nextR x = y at *
  generalize nextR y = z at *
  have e1 : decide ((n : Int) < 1) = false := decide_eq_false (by omega)
  have e2 : decide (128 < (n : Int)) = false := decide_eq_false (by omega)
  go_enter Try.func11, Try.ntmps11
  go_wp2_with fail
  refine Calls.mono (HS1.out _) ?_
  rintro e w1 ⟨rfl, rfl⟩
  go_wp2_with fail
  refine Calls.mono (HS2.out _) ?_
  rintro e w1 ⟨rfl, rfl⟩
  go_wp2_with fail
  refine Calls.mono (HO.out _) ?_
  rintro e w2 ⟨rfl, hb2⟩
  have hbw : Below w.heap.size w w2 := by
    have h := (Below.refl w.heap.size w).alloc (Nat.le_refl _) (.cells #[.int .i64 0, .int .u64 0, .int .u64 0] 45)
    exact h.trans (hb2.mono h.size)
  have hz := (hb2.block _ (Array.getElem?_eq_some_iff.1 (heap_alloc_new w (.cells #[.int .i64 0, .int .u64 0, .int .u64 0] 45))).1).trans (heap_alloc_new w (.cells #[.int .i64 0, .int .u64 0, .int .u64 0] 45))
  have hzA := heapOld w2 (.cells #[.int .i64 (n : Int), .int .u64 (cutHi n y), .int .u64 (cutLo n z)] 45) _ _ hz
  have hbA : Below w.heap.size w (w2.alloc (.cells #[.int .i64 (n : Int), .int .u64 (cutHi n y), .int .u64 (cutLo n z)] 45)) := hbw.alloc hbw.size _
  have z0 := cellOf hz 0
  have z1 := cellOf hz 1
  have z2 := cellOf hz 2
  have fz := frozenOf hz
  have hlt : w.heap.size < w2.heap.size := (Array.getElem?_eq_some_iff.1 hz).1
  have HZ := aside hz
  have HB := aside hbw
  clear hb2 hbw hz hzA hbA
  go_wp2_with fail
  refine bodyPost_ret (results_row_tmp rfl _ _ w.heap.size 45 _ (0, 0) _ rfl (heapOld _ _ _ _ (set3 HZ.out _ _ _)) Try.underlying45 rfl (by kernel_rfl)) rfl ⟨rfl, ?_⟩
  have hb := ((HB.out.setCell (p := ⟨w.heap.size, 0, none⟩) (Nat.le_refl _) (.int .i64 (n : Int))).setCell (p := ⟨w.heap.size, 1, none⟩) (Nat.le_refl _) (.int .u64 (cutHi n y))).setCell (p := ⟨w.heap.size, 2, none⟩) (Nat.le_refl _) (.int .u64 (cutLo n z))
  exact hb.alloc hb.size _
end Go.Proofs.Ytanimonhnngfkaa.Own

/- lives: two arrays are made, one is counted. -/
set_option linter.unusedVariables false
set_option linter.unusedSimpArgs false
namespace Go.Proofs.Ytanimonhnngfkaa.Own
open Go.RowKit

def liveDecs : List Dec := [⟨4, ⟨#[99]⟩, 2, 0, 0⟩, ⟨5, ⟨#[109]⟩, 1, 3, 5⟩]
def live0 : Arr := ⟨⟨#[99]⟩, 4, 64, 0, 0, [⟨64, 0, 0⟩, ⟨64, 0, 0⟩], []⟩
def live1 : Arr := ⟨⟨#[109]⟩, 5, 64, 3, 5, [⟨64, 0, 5⟩], [0]⟩
theorem liveDecs_ok : ∀ j, j < 2 → (liveDecs.getD j zeroDec).ok := by
  intro j hj
  match j, hj with
  | 0, _ => exact ⟨⟨by show 1 ≤ 2; omega, by show 2 ≤ 4096; omega⟩, .inl rfl⟩
  | 1, _ => exact ⟨⟨by show 1 ≤ 1; omega, by show 1 ≤ 4096; omega⟩, .inr ⟨rfl, by show (0:Int) ≤ 3; omega, by show (3:Int) ≤ 65535; omega, by show (1:Int) ≤ 5; omega, by show (5:Int) ≤ 65535; omega⟩⟩
theorem liveArrs : liveDecs.map Dec.arr = [live0, live1] := rfl
theorem live0_ok : live0.ok := Dec.arr_ok _ (liveDecs_ok 0 (by omega))
theorem live1_ok : live1.ok := Dec.arr_ok _ (liveDecs_ok 1 (by omega))
theorem live_ok : ∀ j, j < 2 → ([live0, live1].getD j zeroArr).ok := by
  intro j hj
  match j, hj with
  | 0, _ => exact live0_ok
  | 1, _ => exact live1_ok
def decCells (kd : Int) (nm : ByteArray) (N R B : Int) : List Value := [.int .u8 kd, .string nm, .slice none 0 0, .int .i64 0, .int .i64 N, .int .i64 R, .int .i64 B, .slice none 0 0, .slice none 0 0, .slice none 0 0, .string ⟨#[]⟩, .slice none 0 0, .slice none 0 0, .slice none 0 0, .int .i64 0]
/-- New of the two declarations. -/
theorem New_live (w : World) (cs : Array Value) (hcs : cs.toList = decCells 4 ⟨#[99]⟩ 2 0 0 ++ decCells 5 ⟨#[109]⟩ 1 3 5) :
    Calls Try.prog 8 #[.slice (some ⟨w.heap.size, 0, none⟩) 2 2] (w.alloc (.cells cs 33)) fun e w' => ∃ A c, e = .returned (.slice A 2 c) ∧ RowAt w' A 2 [live0, live1] ∧ Below w.heap.size w w' := by
  have hb : Below w.heap.size w (w.alloc (.cells cs 33)) := (Below.refl _ _).alloc (Nat.le_refl _) _
  have hh := heap_alloc_new w (.cells cs 33)
  refine Calls.mono (New_any liveDecs w.heap.size 2 2 (w.alloc (.cells cs 33)) rfl (by omega) liveDecs_ok ?_ (Array.getElem?_eq_some_iff.1 hh).1) ?_
  · intro j i hj hi
    rw [cellOf hh, ← Array.getElem?_toList, hcs]
    match j, hj with
    | 0, _ => rw [List.getElem?_append_left (by simpa [decCells] using hi), Nat.zero_mul, Nat.zero_add]; rfl
    | 1, _ => rw [List.getElem?_append_right (by show 15 ≤ 1 * 15 + i; omega), show 1 * 15 + i - (decCells 4 ⟨#[99]⟩ 2 0 0).length = i by show 1 * 15 + i - 15 = i; omega]; rfl
  · rintro e w' ⟨v, rfl, hA, hB⟩
    rw [liveArrs] at hA
    obtain ⟨A, c, rfl, hR⟩ := hA.rowAt live_ok (by show 2 ≤ 1048576; omega)
    exact ⟨A, c, rfl, hR, hb.trans (hB.mono hb.size)⟩

theorem num8_ok (x : Int) (h0 : 0 ≤ x) (h1 : x ≤ 255) : (⟨8, 0, x⟩ : Num).wf ∧ (⟨8, 0, x⟩ : Num).ok := by
  refine ⟨⟨⟨by show (-9223372036854775808:Int) ≤ 8; omega, by show (8:Int) ≤ 9223372036854775807; omega⟩, ⟨by show (0:Int) ≤ 0; omega, by show (0:Int) ≤ 18446744073709551615; omega⟩, h0, by show x ≤ 18446744073709551615; omega⟩, by show (1:Int) ≤ 8; omega, by show (8:Int) ≤ 128; omega, ?_, ?_⟩
  · show (0:Int) = cutHi 8 0
    rfl
  · show cutLo 8 x = x
    unfold cutLo
    rw [if_pos (by omega)]
    omega
set_option maxRecDepth 100000 in
set_option maxHeartbeats 800000 in
theorem lives_any (w : World) : Calls Try.prog 9 #[] w fun e w' => e = .returned (.bool true) ∧ Below w.heap.size w w' := by
  have HN := aside (New_live w #[.int .u8 4, .string ⟨#[99]⟩, .slice none 0 0, .int .i64 0, .int .i64 2, .int .i64 0, .int .i64 0, .slice none 0 0, .slice none 0 0, .slice none 0 0, .string ⟨#[]⟩, .slice none 0 0, .slice none 0 0, .slice none 0 0, .int .i64 0, .int .u8 5, .string ⟨#[109]⟩, .slice none 0 0, .int .i64 0, .int .i64 1, .int .i64 3, .int .i64 5, .slice none 0 0, .slice none 0 0, .slice none 0 0, .string ⟨#[]⟩, .slice none 0 0, .slice none 0 0, .slice none 0 0, .int .i64 0] rfl)
  go_enter Try.func9, Try.ntmps9
  go_wp2_with fail
  refine Calls.mono HN.out ?_
  rintro e w1 ⟨A, c, rfl, hR, hb1⟩
  obtain ⟨b, off, hA, hblt, hrs⟩ := hR.2.2 (by omega)
  subst hA
  obtain ⟨A0, n0, c0, B0, m0, d0, hc0, hr0, hs0, hB0⟩ := hrs 0 (by omega)
  obtain ⟨A1, n1, c1, B1, m1, d1, hc1, hr1, hs1, _⟩ := hrs 1 (by omega)
  obtain rfl : 2 = n0 := hr0.1
  obtain rfl : 1 = n1 := hr1.1
  obtain ⟨b1, o1, hA1, hlt1, hq1⟩ := hr1.2.2 (by omega)
  subst hA1
  have hq : w1.cell? ⟨b1, o1 + 2, none⟩ = some (.int .u64 5) := (hq1 0 (by omega)).2.2
  have l0 : w1.cell? ⟨b, off, none⟩ = some (.string ⟨#[99]⟩) := hc0 0 _ rfl
  have l1 : w1.cell? ⟨b, off + 1, none⟩ = some (.int .u8 4) := hc0 1 _ rfl
  have l2 : w1.cell? ⟨b, off + 2, none⟩ = some (.int .i64 64) := hc0 2 _ rfl
  have l3 : w1.cell? ⟨b, off + 3, none⟩ = some (.int .i64 0) := hc0 3 _ rfl
  have l4 : w1.cell? ⟨b, off + 4, none⟩ = some (.int .i64 0) := hc0 4 _ rfl
  have l5 : w1.cell? ⟨b, off + 5, none⟩ = some (.slice A0 2 c0) := hc0 5 _ rfl
  have l6 : w1.cell? ⟨b, off + 6, none⟩ = some (.slice B0 m0 d0) := hc0 6 _ rfl
  have r5 : w1.cell? ⟨b, off + 7 + 5, none⟩ = some (.slice (some ⟨b1, o1, none⟩) 1 c1) := hc1 5 _ rfl
  have HR := aside hR
  have HR0 := aside hr0
  have HS0 := aside hs0
  clear hr1 hs1 hr0 hs0 hrs hR hc0 hc1 hq1
  have HL := aside (fun (V : World) (h : Below w1.heap.size w1 V) => (⟨⟨(h.cell (p := ⟨b, off, none⟩) hblt).trans l0, (h.cell (p := ⟨b, off + 1, none⟩) hblt).trans l1, (h.cell (p := ⟨b, off + 2, none⟩) hblt).trans l2, (h.cell (p := ⟨b, off + 3, none⟩) hblt).trans l3⟩, (h.cell (p := ⟨b, off + 4, none⟩) hblt).trans l4, (h.cell (p := ⟨b, off + 5, none⟩) hblt).trans l5, (h.cell (p := ⟨b, off + 6, none⟩) hblt).trans l6⟩ : (V.cell? ⟨b, off, none⟩ = some (.string ⟨#[99]⟩) ∧ V.cell? ⟨b, off + 1, none⟩ = some (.int .u8 4) ∧ V.cell? ⟨b, off + 2, none⟩ = some (.int .i64 64) ∧ V.cell? ⟨b, off + 3, none⟩ = some (.int .i64 0)) ∧ V.cell? ⟨b, off + 4, none⟩ = some (.int .i64 0) ∧ V.cell? ⟨b, off + 5, none⟩ = some (.slice A0 2 c0) ∧ V.cell? ⟨b, off + 6, none⟩ = some (.slice B0 m0 d0)))
  have HCI := aside (fun (V : World) (h : Below w1.heap.size w1 V) => Count_in live0 live0_ok rfl A0 2 c0 B0 m0 d0 1 hB0 64 0 0 rfl ⟨8, 0, 1⟩ (num8_ok 1 (by omega) (by omega)).1 (num8_ok 1 (by omega) (by omega)).2 rfl rfl (by omega) V (HR0.out.below h) (HS0.out.below h))
  have HCO := aside (fun (V : World) (h : Below w1.heap.size w1 V) => Count_out live0 live0_ok rfl A0 2 c0 B0 m0 d0 2 hB0 ⟨8, 0, 2⟩ (num8_ok 2 (by omega) (by omega)).1 (num8_ok 2 (by omega) (by omega)).2 rfl rfl (by omega) (by omega) V (HR0.out.below h) (HS0.out.below h))
  simp only [Arr.vals, live0, Num.v, zeroVals] at HCI HCO
  clear HR0 HS0
  go_wp2_with fail
  refine Calls.mono (Check_ok [live0, live1] live_ok _ _ _ w1 HR.out) ?_
  rintro e w2 ⟨rfl, hb2⟩
  clear l0 l1 l2 l3 l4 l5 l6 r5 hq
  obtain ⟨⟨l0, l1, l2, l3⟩, l4, l5, l6⟩ := HL.out _ hb2
  go_wp2_with fail
  refine Calls.mono (HCI.out _ hb2) ?_
  rintro e w3 ⟨g, B', rfl, hg0, hg1, _, _, hb3⟩
  have hb13 := hb2.trans (hb3.mono hb2.size)
  have hbA := hb13.alloc hb13.size (.cells #[.string ⟨#[99]⟩, .int .u8 4, .int .i64 64, .int .i64 0, .int .i64 0, .slice (some ⟨g, 0, none⟩) 2 2, .slice B' m0 m0] 38)
  clear l0 l1 l2 l3 l4 l5 l6
  obtain ⟨⟨l0, l1, l2, l3⟩, l4, l5, l6⟩ := HL.out _ hbA
  go_wp2_with fail
  refine Calls.mono (HCO.out _ hbA) ?_
  rintro e w4 ⟨rfl, hb4⟩
  have hbx := heap_alloc_new w3 (.cells #[.string ⟨#[99]⟩, .int .u8 4, .int .i64 64, .int .i64 0, .int .i64 0, .slice (some ⟨g, 0, none⟩) 2 2, .slice B' m0 m0] 38)
  have hbx4 := (hb4.block _ (Array.getElem?_eq_some_iff.1 hbx).1).trans hbx
  have hgA := heapOld w3 (.cells #[.string ⟨#[99]⟩, .int .u8 4, .int .i64 64, .int .i64 0, .int .i64 0, .slice (some ⟨g, 0, none⟩) 2 2, .slice B' m0 m0] 38) _ _ hg1
  have hg4 := (hb4.block _ (Array.getElem?_eq_some_iff.1 hgA).1).trans hgA
  have x5 : w4.cell? ⟨w3.heap.size, 5, none⟩ = some (.slice (some ⟨g, 0, none⟩) 2 2) := cellOf hbx4 5
  have y2 : w4.cell? ⟨g, 2, none⟩ = some (.int .u64 0) := cellOf hg4 2
  have y5 : w4.cell? ⟨g, 5, none⟩ = some (.int .u64 1) := cellOf hg4 5
  have hgl : g < w4.heap.size := (Array.getElem?_eq_some_iff.1 hg4).1
  have hxl : w3.heap.size < w4.heap.size := (Array.getElem?_eq_some_iff.1 hbx4).1
  have HB := aside (hbA.trans (hb4.mono hbA.size))
  have HB1 := aside hb1
  clear l0 l1 l2 l3 l4 l5 l6 hg1 hgA hg4 hbx hbx4 hbA hb13 hb3 hb2 hb1 HL HCI HCO HR HN
  go_wp2_with fail
  go_ret
  have hB := HB1.out.trans (HB.out.mono HB1.out.size)
  exact ⟨rfl, hB.alloc hB.size _⟩
end Go.Proofs.Ytanimonhnngfkaa.Own

/- The law CellsRate. -/
set_option linter.unusedVariables false
set_option linter.unusedSimpArgs false
namespace Go.Proofs.Ytanimonhnngfkaa.Own
open Go.RowKit

theorem carryB {V V' : World} {i : Nat} {o : Obj} (h : Aside (V.heap[i]? = some o)) (hb : Below V.heap.size V V') : Aside (V'.heap[i]? = some o) := (hb.block _ (Array.getElem?_eq_some_iff.1 h.out).1).trans h.out
theorem oldB {V : World} {i : Nat} {o : Obj} (h : Aside (V.heap[i]? = some o)) (o' : Obj) : Aside ((V.alloc o').heap[i]? = some o) := heapOld _ _ _ _ h.out
theorem row_one' (a : Arr) (V : World) (q : Nat) (A : Option Addr) (n c : Nat) (B : Option Addr) (m d : Nat) (hq : V.heap[q]? = some (.cells (a.vals A n c B m d) 38 (0, 0))) (hR : ReadsNums V A n a.cs) (hS : Reads V .i64 B m a.ls) (hBd : B = none → d = 0) : RowAt V (some ⟨q, 0, none⟩) 1 [a] := by
  refine ⟨rfl, by omega, fun _ => ⟨q, 0, rfl, (Array.getElem?_eq_some_iff.1 hq).1, fun j hj => ?_⟩⟩
  obtain rfl : j = 0 := by omega
  refine ⟨A, n, c, B, m, d, fun i v hv => ?_, hR, hS, hBd⟩
  rw [cellOf hq, Nat.zero_mul, Nat.zero_add]
  exact hv
theorem ok_one' (a : Arr) (ho : a.ok) : ∀ j, j < 1 → ([a].getD j zeroArr).ok := by
  intro j hj
  obtain rfl : j = 0 := by omega
  exact ho
/-- The one meter. -/
def met (R B L T : Int) : Arr := ⟨⟨#[109]⟩, 5, 64, R, B, [⟨64, 0, L⟩], [T]⟩
theorem num64_met (L : Int) (h0 : 0 ≤ L) (h1 : L ≤ 65535) : (⟨64, 0, L⟩ : Num).wf ∧ (⟨64, 0, L⟩ : Num).ok := by
  refine ⟨⟨⟨by show (-9223372036854775808:Int) ≤ 64; omega, by show (64:Int) ≤ 9223372036854775807; omega⟩, ⟨by show (0:Int) ≤ 0; omega, by show (0:Int) ≤ 18446744073709551615; omega⟩, h0, by show L ≤ 18446744073709551615; omega⟩, by show (1:Int) ≤ 64; omega, by show (64:Int) ≤ 128; omega, rfl, ?_⟩
  show cutLo 64 L = L
  rfl
theorem met_ok (R B L T : Int) (hR : 0 ≤ R ∧ R ≤ 65535) (hB : 1 ≤ B ∧ B ≤ 65535) (hL : 0 ≤ L ∧ L ≤ B) (hT : 0 ≤ T) : (met R B L T).ok := by
  refine ⟨.inr (.inr rfl), ⟨fun h => absurd rfl h, fun h => absurd (show (5 : Int) = 3 from h) (by decide), fun _ => rfl, fun _ => ⟨hR.1, hR.2, hB.1, hB.2, rfl⟩⟩, ⟨by show 1 ≤ 1; omega, by show 1 ≤ 4096; omega⟩, fun j hj => ?_, fun j hj => ?_⟩
  · obtain rfl : j = 0 := by have : j < 1 := hj; omega
    obtain ⟨h1, h2⟩ := num64_met L hL.1 (by omega)
    exact ⟨h1, h2, rfl, fun _ => hL.2⟩
  · obtain rfl : j = 0 := by have : j < 1 := hj; omega
    exact hT
/-- New of the one declaration. -/
theorem New_met (w : World) (R B : Int) (hR : 0 ≤ R ∧ R ≤ 65535) (hB : 1 ≤ B ∧ B ≤ 65535) (cs : Array Value) (hcs : cs.toList = decCells 5 ⟨#[109]⟩ 1 R B) :
    Calls Try.prog 8 #[.slice (some ⟨w.heap.size, 0, none⟩) 1 1] (w.alloc (.cells cs 33)) fun e w' => ∃ A c, e = .returned (.slice A 1 c) ∧ RowAt w' A 1 [met R B B 0] ∧ Below w.heap.size w w' := by
  have hb : Below w.heap.size w (w.alloc (.cells cs 33)) := (Below.refl _ _).alloc (Nat.le_refl _) _
  have hh := heap_alloc_new w (.cells cs 33)
  have hok : ∀ j, j < 1 → (([⟨5, ⟨#[109]⟩, 1, R, B⟩] : List Dec).getD j zeroDec).ok := by
    intro j hj
    obtain rfl : j = 0 := by omega
    exact ⟨⟨by show 1 ≤ 1; omega, by show 1 ≤ 4096; omega⟩, .inr ⟨rfl, hR.1, hR.2, hB.1, hB.2⟩⟩
  refine Calls.mono (New_any [⟨5, ⟨#[109]⟩, 1, R, B⟩] w.heap.size 1 1 (w.alloc (.cells cs 33)) rfl (by omega) hok ?_ (Array.getElem?_eq_some_iff.1 hh).1) ?_
  · intro j i hj hi
    rw [cellOf hh, ← Array.getElem?_toList, hcs]
    obtain rfl : j = 0 := by omega
    rw [Nat.zero_mul, Nat.zero_add]; rfl
  · rintro e w' ⟨v, rfl, hA, hB'⟩
    have e1 : ([⟨5, ⟨#[109]⟩, 1, R, B⟩] : List Dec).map Dec.arr = [met R B B 0] := rfl
    rw [e1] at hA
    obtain ⟨A, c, rfl, hR'⟩ := hA.rowAt (ok_one' _ (met_ok R B B 0 hR hB (by omega) (by omega))) (by show 1 ≤ 1048576; omega)
    exact ⟨A, c, rfl, hR', hb.trans (hB'.mono hb.size)⟩
theorem one_ok : (⟨1, 0, 0⟩ : Num).wf ∧ (⟨1, 0, 0⟩ : Num).ok := by
  refine ⟨⟨⟨by show (-9223372036854775808:Int) ≤ 1; omega, by show (1:Int) ≤ 9223372036854775807; omega⟩, ⟨by show (0:Int) ≤ 0; omega, by show (0:Int) ≤ 18446744073709551615; omega⟩, by show (0:Int) ≤ 0; omega, by show (0:Int) ≤ 18446744073709551615; omega⟩, by show (1:Int) ≤ 1; omega, by show (1:Int) ≤ 128; omega, rfl, rfl⟩
/-- The tokens at a tick: between 0 and the burst; no more than what was and what came in. -/
theorem lo_bounds (R B L T D : Int) (hR : 0 ≤ R) (hB : 1 ≤ B) (hL : 0 ≤ L ∧ L ≤ B) (hD : T ≤ D) : 0 ≤ meterLo L T D R B ∧ meterLo L T D R B ≤ B ∧ meterLo L T D R B ≤ L + (D - T) * R := by
  have hq : 0 ≤ (D - T) * R := Int.mul_nonneg (by omega) hR
  unfold meterLo
  by_cases h : T < D
  · rw [if_pos h]
    have h1 : 0 ≤ meterMore T D R B ∧ meterMore T D R B ≤ (D - T) * R := by
      unfold meterMore
      by_cases h2 : B < D - T
      · rw [if_pos h2]
        exact ⟨Int.mul_nonneg (by omega) hR, Int.mul_le_mul_of_nonneg_right (by omega) hR⟩
      · rw [if_neg h2]
        exact ⟨hq, Int.le_refl _⟩
    split <;> omega
  · rw [if_neg h]
    omega
theorem nums_foot {w w1 : World} {A : Option Addr} {n : Nat} {xs : List Num} {F : Nat → Prop} (h : ReadsNums w A n xs) (hf : Foot F w w1) (hF : ∀ ad, A = some ad → ¬ F ad.block) : ReadsNums w1 A n xs := by
  refine ⟨h.1, h.2.1, fun hn => ?_⟩
  obtain ⟨b, off, hA, hlt, hc⟩ := h.2.2 hn
  have hb := hF _ hA
  exact ⟨b, off, hA, Nat.lt_of_lt_of_le hlt hf.size, fun j hj => ⟨hf.cell (hc j hj).1 hb, hf.cell (hc j hj).2.1 hb, hf.cell (hc j hj).2.2 hb⟩⟩
/-- The meter, in its box and out of it. -/
structure RateAt (pb : Nat) (R B L T : Int) (A : Option Addr) (c : Nat) (B' : Option Addr) (d : Nat) (wr : World) : Prop where
  box : wr.heap[pb]? = some (.cells #[.string ⟨#[109]⟩, .int .u8 5, .int .i64 64, .int .i64 R, .int .i64 B, .slice A 1 c, .slice B' 1 d] 38 (0, 0))
  hR : ReadsNums wr A 1 [⟨64, 0, L⟩]
  hS : Reads wr .i64 B' 1 [T]
  hd : B' = none → d = 0
  hA : ∀ ad, A = some ad → ad.block ≠ pb
  hB : ∀ ad, B' = some ad → ad.block ≠ pb
theorem RateAt.cells {pb : Nat} {R B L T : Int} {A : Option Addr} {c : Nat} {B' : Option Addr} {d : Nat} {wr : World} (h : RateAt pb R B L T A c B' d wr) :
    (wr.cell? ⟨pb, 0, none⟩ = some (.string ⟨#[109]⟩) ∧ wr.cell? ⟨pb, 1, none⟩ = some (.int .u8 5) ∧ wr.cell? ⟨pb, 2, none⟩ = some (.int .i64 64)) ∧ wr.cell? ⟨pb, 3, none⟩ = some (.int .i64 R) ∧ wr.cell? ⟨pb, 4, none⟩ = some (.int .i64 B) ∧ wr.cell? ⟨pb, 5, none⟩ = some (.slice A 1 c) ∧ wr.cell? ⟨pb, 6, none⟩ = some (.slice B' 1 d) :=
  cells7' (aside h.box)
/-- Meter, of the one meter. -/
theorem Meter_met (R B L T D lo : Int) (hR : 0 ≤ R ∧ R ≤ 65535) (hB : 1 ≤ B ∧ B ≤ 65535) (hL : 0 ≤ L ∧ L ≤ B) (hT : 0 ≤ T) (hD : T ≤ D) (hD1 : D ≤ 9223372036854775807) (hlo : lo = meterLo L T D R B) (A : Option Addr) (c : Nat) (B' : Option Addr) (d : Nat) (hd : B' = none → d = 0) (w : World) (hRd : ReadsNums w A 1 [⟨64, 0, L⟩]) (hS : Reads w .i64 B' 1 [T]) :
    Calls Try.prog 18 #[.agg #[.string ⟨#[109]⟩, .int .u8 5, .int .i64 64, .int .i64 R, .int .i64 B, .slice A 1 c, .slice B' 1 d], .agg #[.int .i64 1, .int .u64 0, .int .u64 0], .int .i64 D] w fun e w' => ∃ g B2, e = .returned (.tuple #[.agg #[.string ⟨#[109]⟩, .int .u8 5, .int .i64 64, .int .i64 R, .int .i64 B, .slice (some ⟨g, 0, none⟩) 1 1, .slice B2 1 1], .agg #[.int .i64 1, .int .u64 0, .int .u64 (if 0 < lo then 1 else 0)], .int .i64 0]) ∧ w.heap.size ≤ g ∧ ReadsNums w' (some ⟨g, 0, none⟩) 1 [⟨64, 0, if 0 < lo then lo - 1 else lo⟩] ∧ Reads w' .i64 B2 1 [D] ∧ (∃ b, B2 = some ⟨b, 0, none⟩ ∧ g < b) ∧ Below w.heap.size w w' := by
  obtain ⟨o1, o2⟩ := one_ok
  refine Calls.mono (Meter_any (met R B L T) (met_ok R B L T hR hB hL hT) rfl A 1 c B' 1 d 0 hd 64 0 L rfl T D rfl (by omega) hD1 lo hlo ⟨1, 0, 0⟩ o1 o2 rfl rfl (by omega) w hRd hS) ?_
  rintro e w' ⟨g, B2, c2, rfl, hg, hg1, hO, hb⟩
  have e1 : (if T < D then D else T) = D := by split <;> omega
  rw [e1] at hO ⊢
  have hO' : w'.ownsRow (g + 1) 3 1 (.slice B2 1 c2) 1 (nums .i64 [D]) := hO
  obtain ⟨b, c3, hv, h1, _⟩ := own_some hO' (by omega)
  injection hv with hv _ _
  exact ⟨g, B2, rfl, hg, readsNums_at (xs := [⟨64, 0, if 0 < lo then lo - 1 else lo⟩]) hg1 (by show 1 ≤ 9223372036854775807; omega), own_rd' hO', ⟨b, hv, by omega⟩, hb⟩
set_option maxRecDepth 100000 in
set_option maxHeartbeats 3200000 in
theorem Rate_any (R b : Int) (hR : 0 ≤ R ∧ R ≤ 255) (hb0 : 0 ≤ b ∧ b ≤ 255) (X : Option Addr) (n c : Nat) (xs : List Int) (w : World) (hX : Reads w .u8 X n xs) (hx : ∀ j, j < n → 0 ≤ xs.getD j 0 ∧ xs.getD j 0 ≤ 255) :
    Calls Try.prog 7 #[.int .u8 R, .int .u8 b, .slice X n c] w fun e w' => e = .returned (.bool true) ∧ Below w.heap.size w w' := by
  have hw1 : IntKind.i64.wrap R = R := by rw [IntKind.wrap_i64]; omega
  have hw2 : IntKind.i64.wrap b = b := by rw [IntKind.wrap_i64]; omega
  have HN := aside (New_met w R (1 + b) (by omega) (by omega) #[.int .u8 5, .string ⟨#[109]⟩, .slice none 0 0, .int .i64 0, .int .i64 1, .int .i64 R, .int .i64 (1 + b), .slice none 0 0, .slice none 0 0, .slice none 0 0, .string ⟨#[]⟩, .slice none 0 0, .slice none 0 0, .slice none 0 0, .int .i64 0] rfl)
  have HX := aside hX
  have HXB := aside hx
  have hnn := hX.2.1
  clear hX hx
  go_enter Try.func7, Try.ntmps7
  go_wp2_with fail
  refine Calls.mono HN.out ?_
  rintro e w1 ⟨A, cA, rfl, hRow, hb1⟩
  obtain ⟨bb, off, hA, hblt, hrs⟩ := hRow.2.2 (by omega)
  subst hA
  by_cases hbig : (500 : Int) < (n : Int)
  · have hd : decide ((500 : Int) < (n : Int)) = true := decide_eq_true hbig
    clear hRow hrs
    go_wp2_with fail
    refine Calls.mono (lives_any _) ?_
    rintro e w2 ⟨rfl, hb2⟩
    go_wp2
    go_ret
    exact ⟨rfl, hb1.trans (hb2.mono hb1.size)⟩
  · have hd : decide ((500 : Int) < (n : Int)) = false := decide_eq_false hbig
    obtain ⟨A0, n0, c0, B0, m0, d0, hc0, hr0, hs0, hB0⟩ := hrs 0 (by omega)
    obtain rfl : 1 = n0 := hr0.1
    obtain rfl : 1 = m0 := hs0.1
    have l0 : w1.cell? ⟨bb, off, none⟩ = some (.string ⟨#[109]⟩) := hc0 0 _ rfl
    have l1 : w1.cell? ⟨bb, off + 1, none⟩ = some (.int .u8 5) := hc0 1 _ rfl
    have l2 : w1.cell? ⟨bb, off + 2, none⟩ = some (.int .i64 64) := hc0 2 _ rfl
    have l3 : w1.cell? ⟨bb, off + 3, none⟩ = some (.int .i64 R) := hc0 3 _ rfl
    have l4 : w1.cell? ⟨bb, off + 4, none⟩ = some (.int .i64 (1 + b)) := hc0 4 _ rfl
    have l5 : w1.cell? ⟨bb, off + 5, none⟩ = some (.slice A0 1 c0) := hc0 5 _ rfl
    have l6 : w1.cell? ⟨bb, off + 6, none⟩ = some (.slice B0 1 d0) := hc0 6 _ rfl
    have HR0 := aside hr0
    have HS0 := aside hs0
    have HB0 := aside hB0
    have HB1 := aside hb1
    clear hRow hrs hc0 hr0 hs0 hB0 hb1
    have hpb : Below w.heap.size w (w1.alloc (.cells #[.string ⟨#[109]⟩, .int .u8 5, .int .i64 64, .int .i64 R, .int .i64 (1 + b), .slice A0 1 c0, .slice B0 1 d0] 38)) := HB1.out.alloc HB1.out.size _
    have hal := (Below.refl w1.heap.size w1).alloc (Nat.le_refl _) (.cells #[.string ⟨#[109]⟩, .int .u8 5, .int .i64 64, .int .i64 R, .int .i64 (1 + b), .slice A0 1 c0, .slice B0 1 d0] 38)
    have hR0 : RateAt w1.heap.size R (1 + b) (1 + b) 0 A0 c0 B0 d0 (w1.alloc (.cells #[.string ⟨#[109]⟩, .int .u8 5, .int .i64 64, .int .i64 R, .int .i64 (1 + b), .slice A0 1 c0, .slice B0 1 d0] 38)) :=
      ⟨heap_alloc_new _ _, HR0.out.below hal, HS0.out.below hal, HB0.out, fun ad e => by have := nums_lt HR0.out ad e (by omega); omega, fun ad e => by have := HS0.out.block_lt ad e (by omega); omega⟩
    have HR0' := aside hR0
    have hws : w.heap.size ≤ w1.heap.size := HB1.out.size
    clear hR0 hal HR0 HS0 HB0 HN
    go_wp2_with fail
    go_loopw [9, 10, 11] (fun v9 v10 v11 wr => ∃ (k : Nat) (T gone L : Int) (A : Option Addr) (c : Nat) (B' : Option Addr) (d : Nat), k ≤ n ∧ v9 = .int .i64 T ∧ v10 = .int .i64 gone ∧ v11 = .int .i64 k ∧ Aside ((0 ≤ L ∧ L ≤ 1 + b) ∧ (0 ≤ T ∧ T ≤ 3 * k) ∧ (0 ≤ gone ∧ gone ≤ k ∧ gone + L ≤ 1 + b + T * R)) ∧ Aside (RateAt w1.heap.size R (1 + b) L T A c B' d wr) ∧ Aside (Below w.heap.size w wr)) (fun _ _ i _ => n - (intOf i).toNat)
    case atStart => exact ⟨0, 0, 0, 1 + b, A0, c0, B0, d0, Nat.zero_le _, rfl, rfl, rfl, ⟨by omega, by omega, by omega⟩, HR0', hpb⟩
    case round =>
      obtain ⟨k, T, gone, L, A, c, B', d, hk, rfl, rfl, rfl, HI, HM, HB⟩ := hrel
      clear HR0' hpb l0 l1 l2 l3 l4 l5 l6
      by_cases hlt : k < n
      · obtain ⟨ad, rfl, hcx⟩ := (HX.out.below HB.out).at_ (k : Int) (by omega) (by omega)
        simp only [Int.toNat_natCast, rd] at hcx
        have hxb := HXB.out k hlt
        obtain ⟨i1, i2, i3⟩ := HI.out
        generalize xs.getD k 0 = x at *
        obtain ⟨q, hq⟩ : ∃ q, x.tmod 4 = q := ⟨_, rfl⟩
        have hq0 : 0 ≤ q ∧ q ≤ 3 := by rw [← hq, Int.tmod_eq_emod_of_nonneg hxb.1]; omega
        have hwq : IntKind.i64.wrap q = q := by rw [IntKind.wrap_i64]; omega
        have hk0 : (0 : Int) ≤ (k : Int) := by omega
        have hk1 : (k : Int) < (n : Int) := by omega
        have hTR : (T + q) * R = T * R + q * R := Int.add_mul _ _ _
        have hq1 : 0 ≤ q * R := Int.mul_nonneg hq0.1 hR.1
        have hT1 : 0 ≤ (T + q) * R := Int.mul_nonneg (by omega) hR.1
        have hT2 : (T + q) * R ≤ 2000 * 255 := Int.mul_le_mul (by omega) hR.2 hR.1 (by omega)
        obtain ⟨lo, hlo⟩ : ∃ lo, lo = meterLo L T (T + q) R (1 + b) := ⟨_, rfl⟩
        have hlb := lo_bounds R (1 + b) L T (T + q) hR.1 (by omega) i1 (by omega)
        rw [← hlo] at hlb
        have e5 : (T + q - T) * R = q * R := by rw [show T + q - T = q by omega]
        rw [e5] at hlb
        have HMT := aside (Meter_met R (1 + b) L T (T + q) lo (by omega) (by omega) i1 i2.1 (by omega) (by omega) hlo A c B' d HM.out.hd wr HM.out.hR HM.out.hS)
        obtain ⟨⟨m0, m1, m2⟩, m3, m4, m5, m6⟩ := HM.out.cells
        have hpl : w1.heap.size < wr.heap.size := (Array.getElem?_eq_some_iff.1 HM.out.box).1
        generalize hTRe : (T + q) * R = TR at *
        clear hlo e5
        by_cases hp : 0 < lo
        · simp only [if_pos hp] at HMT
          have hcmp : decide (1 + b + TR < (gone + 1)) = false := decide_eq_false (by omega)
          go_wp2_with fail
          refine Calls.mono HMT.out ?_
          rintro e w2 ⟨g, B2, rfl, hg0, hgR, hgS, ⟨bb2, hB2, hbg⟩, hb⟩
          subst hB2
          have a1 := (Below.refl w2.heap.size w2).alloc (Nat.le_refl _) (.cells #[.string ⟨#[109]⟩, .int .u8 5, .int .i64 64, .int .i64 R, .int .i64 (1 + b), .slice (some ⟨g, 0, none⟩) 1 1, .slice (some ⟨bb2, 0, none⟩) 1 1] 38)
          have a2 := a1.alloc a1.size (.cells #[.int .i64 1, .int .u64 0, .int .u64 1] 45)
          have a3 := a2.alloc a2.size (.cells #[.string ⟨#[109]⟩, .int .u8 5, .int .i64 64, .int .i64 R, .int .i64 (1 + b), .slice (some ⟨g, 0, none⟩) 1 1, .slice (some ⟨bb2, 0, none⟩) 1 1] 38)
          have HBX := oldB (oldB (carryB (aside HM.out.box) hb) (.cells #[.string ⟨#[109]⟩, .int .u8 5, .int .i64 64, .int .i64 R, .int .i64 (1 + b), .slice (some ⟨g, 0, none⟩) 1 1, .slice (some ⟨bb2, 0, none⟩) 1 1] 38)) (.cells #[.int .i64 1, .int .u64 0, .int .u64 1] 45)
          have HC := oldB (aside (heap_alloc_new w2 (.cells #[.string ⟨#[109]⟩, .int .u8 5, .int .i64 64, .int .i64 R, .int .i64 (1 + b), .slice (some ⟨g, 0, none⟩) 1 1, .slice (some ⟨bb2, 0, none⟩) 1 1] 38))) (.cells #[.int .i64 1, .int .u64 0, .int .u64 1] 45)
          have HV := aside (heapLit (w2.alloc (.cells #[.string ⟨#[109]⟩, .int .u8 5, .int .i64 64, .int .i64 R, .int .i64 (1 + b), .slice (some ⟨g, 0, none⟩) 1 1, .slice (some ⟨bb2, 0, none⟩) 1 1] 38)) #[.int .i64 1, .int .u64 0, .int .u64 1] 45 (w2.heap.size + 1) (by rw [sizeLit]))
          have HBW := aside (HB.out.trans (hb.mono HB.out.size))
          have HGR := aside hgR
          have HGS := aside hgS
          have hsw := hb.size
          obtain ⟨⟨m0, m1, m2⟩, m3, m4, m5, m6⟩ := cells7' HBX
          obtain ⟨⟨y0, y1, y2⟩, y3, y4, y5, y6⟩ := cells7' HC
          have v2 := cellOf HV.out 2
          simp only [List.getElem?_toArray, List.getElem?_cons_zero, List.getElem?_cons_succ] at v2
          clear hgR hgS
          go_wp2_with fail
          refine Calls.mono (Check_ok [met R (1 + b) (lo - 1) (T + q)] (ok_one' _ (met_ok R (1 + b) (lo - 1) (T + q) (by omega) (by omega) (by omega) (by omega))) (some ⟨w2.heap.size + 1 + 1, 0, none⟩) 1 1 _ (row_one' (met R (1 + b) (lo - 1) (T + q)) _ (w2.heap.size + 1 + 1) (some ⟨g, 0, none⟩) 1 1 (some ⟨bb2, 0, none⟩) 1 1 (heapLit _ _ _ _ (by rw [sizeLit, sizeLit])) (HGR.out.below a3) (HGS.out.below a3) (fun e => by cases e))) ?_
          rintro e w3 ⟨rfl, hb3⟩
          have HB3 := aside ((HBW.out.trans (a3.mono HBW.out.size)).trans (hb3.mono (HBW.out.trans (a3.mono HBW.out.size)).size))
          have HBX3 := carryB (oldB HBX (.cells #[.string ⟨#[109]⟩, .int .u8 5, .int .i64 64, .int .i64 R, .int .i64 (1 + b), .slice (some ⟨g, 0, none⟩) 1 1, .slice (some ⟨bb2, 0, none⟩) 1 1] 38)) hb3
          have HC3 := carryB (oldB HC (.cells #[.string ⟨#[109]⟩, .int .u8 5, .int .i64 64, .int .i64 R, .int .i64 (1 + b), .slice (some ⟨g, 0, none⟩) 1 1, .slice (some ⟨bb2, 0, none⟩) 1 1] 38)) hb3
          have HV3 := carryB (oldB HV (.cells #[.string ⟨#[109]⟩, .int .u8 5, .int .i64 64, .int .i64 R, .int .i64 (1 + b), .slice (some ⟨g, 0, none⟩) 1 1, .slice (some ⟨bb2, 0, none⟩) 1 1] 38)) hb3
          have HGR3 := aside ((HGR.out.below a3).below hb3)
          have HGS3 := aside ((HGS.out.below a3).below hb3)
          have hs3 : w2.heap.size + 3 ≤ w3.heap.size := by have h := hb3.size; rw [sizeLit, sizeLit, sizeLit] at h; exact h
          clear m0 m1 m2 m3 m4 m5 m6 y0 y1 y2 y3 y4 y5 y6 v2 a1 a2 a3 hb hb3
          obtain ⟨⟨m0, m1, m2⟩, m3, m4, m5, m6⟩ := cells7' HBX3
          obtain ⟨⟨y0, y1, y2⟩, y3, y4, y5, y6⟩ := cells7' HC3
          have v2 := cellOf HV3.out 2
          have fb := frozenOf HBX3.out
          simp only [List.getElem?_toArray, List.getElem?_cons_zero, List.getElem?_cons_succ] at v2
          go_wp2_with fail
          go_roundw
          case rel =>
            refine ⟨k + 1, T + q, (gone + 1), (lo - 1), some ⟨g, 0, none⟩, 1, some ⟨bb2, 0, none⟩, 1, by omega, by go_num, by go_num, by go_num, ⟨by omega, by omega, ?_⟩, ?_, ?_⟩
            · rw [hTRe]; omega
            · have hF := ((((((((Foot.refl (fun i => i = w1.heap.size) w3).setCell (p := ⟨w1.heap.size, 0, none⟩) (.inl rfl) (.string ⟨#[109]⟩)).setCell (p := ⟨w1.heap.size, 1, none⟩) (.inl rfl) (.int .u8 5)).setCell (p := ⟨w1.heap.size, 2, none⟩) (.inl rfl) (.int .i64 64)).setCell (p := ⟨w1.heap.size, 3, none⟩) (.inl rfl) (.int .i64 R)).setCell (p := ⟨w1.heap.size, 4, none⟩) (.inl rfl) (.int .i64 (1 + b))).setCell (p := ⟨w1.heap.size, 5, none⟩) (.inl rfl) (.slice (some ⟨g, 0, none⟩) 1 1)).setCell (p := ⟨w1.heap.size, 6, none⟩) (.inl rfl) (.slice (some ⟨bb2, 0, none⟩) 1 1))
              exact ⟨set7 HBX3.out _ _ _ _ _ _ _, nums_foot HGR3.out hF (fun ad e h => by cases e; have h' : g = _ := h; omega), HGS3.out.foot hF (fun ad e _ h => by cases e; have h' : bb2 = _ := h; omega), (fun e => by cases e), (fun ad e => by cases e; show g ≠ _; omega), (fun ad e => by cases e; show bb2 ≠ _; omega)⟩
            · exact (((((((HB3.out.setCell (p := ⟨w1.heap.size, 0, none⟩) hws _).setCell (p := ⟨w1.heap.size, 1, none⟩) hws _).setCell (p := ⟨w1.heap.size, 2, none⟩) hws _).setCell (p := ⟨w1.heap.size, 3, none⟩) hws _).setCell (p := ⟨w1.heap.size, 4, none⟩) hws _).setCell (p := ⟨w1.heap.size, 5, none⟩) hws _).setCell (p := ⟨w1.heap.size, 6, none⟩) hws _)
          case measure => (simp [intOf]; omega)
        · simp only [if_neg hp] at HMT
          have hcmp : decide (1 + b + TR < gone) = false := decide_eq_false (by omega)
          go_wp2_with fail
          refine Calls.mono HMT.out ?_
          rintro e w2 ⟨g, B2, rfl, hg0, hgR, hgS, ⟨bb2, hB2, hbg⟩, hb⟩
          subst hB2
          have a1 := (Below.refl w2.heap.size w2).alloc (Nat.le_refl _) (.cells #[.string ⟨#[109]⟩, .int .u8 5, .int .i64 64, .int .i64 R, .int .i64 (1 + b), .slice (some ⟨g, 0, none⟩) 1 1, .slice (some ⟨bb2, 0, none⟩) 1 1] 38)
          have a2 := a1.alloc a1.size (.cells #[.int .i64 1, .int .u64 0, .int .u64 0] 45)
          have a3 := a2.alloc a2.size (.cells #[.string ⟨#[109]⟩, .int .u8 5, .int .i64 64, .int .i64 R, .int .i64 (1 + b), .slice (some ⟨g, 0, none⟩) 1 1, .slice (some ⟨bb2, 0, none⟩) 1 1] 38)
          have HBX := oldB (oldB (carryB (aside HM.out.box) hb) (.cells #[.string ⟨#[109]⟩, .int .u8 5, .int .i64 64, .int .i64 R, .int .i64 (1 + b), .slice (some ⟨g, 0, none⟩) 1 1, .slice (some ⟨bb2, 0, none⟩) 1 1] 38)) (.cells #[.int .i64 1, .int .u64 0, .int .u64 0] 45)
          have HC := oldB (aside (heap_alloc_new w2 (.cells #[.string ⟨#[109]⟩, .int .u8 5, .int .i64 64, .int .i64 R, .int .i64 (1 + b), .slice (some ⟨g, 0, none⟩) 1 1, .slice (some ⟨bb2, 0, none⟩) 1 1] 38))) (.cells #[.int .i64 1, .int .u64 0, .int .u64 0] 45)
          have HV := aside (heapLit (w2.alloc (.cells #[.string ⟨#[109]⟩, .int .u8 5, .int .i64 64, .int .i64 R, .int .i64 (1 + b), .slice (some ⟨g, 0, none⟩) 1 1, .slice (some ⟨bb2, 0, none⟩) 1 1] 38)) #[.int .i64 1, .int .u64 0, .int .u64 0] 45 (w2.heap.size + 1) (by rw [sizeLit]))
          have HBW := aside (HB.out.trans (hb.mono HB.out.size))
          have HGR := aside hgR
          have HGS := aside hgS
          have hsw := hb.size
          obtain ⟨⟨m0, m1, m2⟩, m3, m4, m5, m6⟩ := cells7' HBX
          obtain ⟨⟨y0, y1, y2⟩, y3, y4, y5, y6⟩ := cells7' HC
          have v2 := cellOf HV.out 2
          simp only [List.getElem?_toArray, List.getElem?_cons_zero, List.getElem?_cons_succ] at v2
          clear hgR hgS
          go_wp2_with fail
          refine Calls.mono (Check_ok [met R (1 + b) (lo) (T + q)] (ok_one' _ (met_ok R (1 + b) (lo) (T + q) (by omega) (by omega) (by omega) (by omega))) (some ⟨w2.heap.size + 1 + 1, 0, none⟩) 1 1 _ (row_one' (met R (1 + b) (lo) (T + q)) _ (w2.heap.size + 1 + 1) (some ⟨g, 0, none⟩) 1 1 (some ⟨bb2, 0, none⟩) 1 1 (heapLit _ _ _ _ (by rw [sizeLit, sizeLit])) (HGR.out.below a3) (HGS.out.below a3) (fun e => by cases e))) ?_
          rintro e w3 ⟨rfl, hb3⟩
          have HB3 := aside ((HBW.out.trans (a3.mono HBW.out.size)).trans (hb3.mono (HBW.out.trans (a3.mono HBW.out.size)).size))
          have HBX3 := carryB (oldB HBX (.cells #[.string ⟨#[109]⟩, .int .u8 5, .int .i64 64, .int .i64 R, .int .i64 (1 + b), .slice (some ⟨g, 0, none⟩) 1 1, .slice (some ⟨bb2, 0, none⟩) 1 1] 38)) hb3
          have HC3 := carryB (oldB HC (.cells #[.string ⟨#[109]⟩, .int .u8 5, .int .i64 64, .int .i64 R, .int .i64 (1 + b), .slice (some ⟨g, 0, none⟩) 1 1, .slice (some ⟨bb2, 0, none⟩) 1 1] 38)) hb3
          have HV3 := carryB (oldB HV (.cells #[.string ⟨#[109]⟩, .int .u8 5, .int .i64 64, .int .i64 R, .int .i64 (1 + b), .slice (some ⟨g, 0, none⟩) 1 1, .slice (some ⟨bb2, 0, none⟩) 1 1] 38)) hb3
          have HGR3 := aside ((HGR.out.below a3).below hb3)
          have HGS3 := aside ((HGS.out.below a3).below hb3)
          have hs3 : w2.heap.size + 3 ≤ w3.heap.size := by have h := hb3.size; rw [sizeLit, sizeLit, sizeLit] at h; exact h
          clear m0 m1 m2 m3 m4 m5 m6 y0 y1 y2 y3 y4 y5 y6 v2 a1 a2 a3 hb hb3
          obtain ⟨⟨m0, m1, m2⟩, m3, m4, m5, m6⟩ := cells7' HBX3
          obtain ⟨⟨y0, y1, y2⟩, y3, y4, y5, y6⟩ := cells7' HC3
          have v2 := cellOf HV3.out 2
          have fb := frozenOf HBX3.out
          simp only [List.getElem?_toArray, List.getElem?_cons_zero, List.getElem?_cons_succ] at v2
          go_wp2_with fail
          go_roundw
          case rel =>
            refine ⟨k + 1, T + q, gone, (lo), some ⟨g, 0, none⟩, 1, some ⟨bb2, 0, none⟩, 1, by omega, by go_num, by go_num, by go_num, ⟨by omega, by omega, ?_⟩, ?_, ?_⟩
            · rw [hTRe]; omega
            · have hF := ((((((((Foot.refl (fun i => i = w1.heap.size) w3).setCell (p := ⟨w1.heap.size, 0, none⟩) (.inl rfl) (.string ⟨#[109]⟩)).setCell (p := ⟨w1.heap.size, 1, none⟩) (.inl rfl) (.int .u8 5)).setCell (p := ⟨w1.heap.size, 2, none⟩) (.inl rfl) (.int .i64 64)).setCell (p := ⟨w1.heap.size, 3, none⟩) (.inl rfl) (.int .i64 R)).setCell (p := ⟨w1.heap.size, 4, none⟩) (.inl rfl) (.int .i64 (1 + b))).setCell (p := ⟨w1.heap.size, 5, none⟩) (.inl rfl) (.slice (some ⟨g, 0, none⟩) 1 1)).setCell (p := ⟨w1.heap.size, 6, none⟩) (.inl rfl) (.slice (some ⟨bb2, 0, none⟩) 1 1))
              exact ⟨set7 HBX3.out _ _ _ _ _ _ _, nums_foot HGR3.out hF (fun ad e h => by cases e; have h' : g = _ := h; omega), HGS3.out.foot hF (fun ad e _ h => by cases e; have h' : bb2 = _ := h; omega), (fun e => by cases e), (fun ad e => by cases e; show g ≠ _; omega), (fun ad e => by cases e; show bb2 ≠ _; omega)⟩
            · exact (((((((HB3.out.setCell (p := ⟨w1.heap.size, 0, none⟩) hws _).setCell (p := ⟨w1.heap.size, 1, none⟩) hws _).setCell (p := ⟨w1.heap.size, 2, none⟩) hws _).setCell (p := ⟨w1.heap.size, 3, none⟩) hws _).setCell (p := ⟨w1.heap.size, 4, none⟩) hws _).setCell (p := ⟨w1.heap.size, 5, none⟩) hws _).setCell (p := ⟨w1.heap.size, 6, none⟩) hws _)
          case measure => (simp [intOf]; omega)
      · obtain rfl : k = n := by omega
        go_wp2_with fail
        refine Calls.mono (lives_any _) ?_
        rintro e w2 ⟨rfl, hb2⟩
        go_wp2
        go_ret
        exact ⟨rfl, HB.out.trans (hb2.mono HB.out.size)⟩
end Go.Proofs.Ytanimonhnngfkaa.Own
