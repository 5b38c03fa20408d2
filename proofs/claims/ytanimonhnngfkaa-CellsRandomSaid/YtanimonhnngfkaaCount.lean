/-
  cells.Count, of an array that may be.
-/
import Derived.Test.YtanimonhnngfkaaCell
set_option linter.unusedVariables false
set_option linter.unusedSimpArgs false
namespace Go.Proofs.Ytanimonhnngfkaa
open Go.RowKit

theorem aside {p : Prop} (h : p) : Aside p := h
def zeroVals : Array Value := #[.string ⟨#[]⟩, .int .u8 0, .int .i64 0, .int .i64 0, .int .i64 0, .slice none 0 0, .slice none 0 0]
theorem set7 {w : World} {g : Nat} {a0 a1 a2 a3 a4 a5 a6 : Value} {t : TypeId} {fr : Nat × Nat} (h : w.heap[g]? = some (.cells #[a0, a1, a2, a3, a4, a5, a6] t fr)) (x0 x1 x2 x3 x4 x5 x6 : Value) :
    (((((((w.setCell ⟨g, 0, none⟩ x0).setCell ⟨g, 1, none⟩ x1).setCell ⟨g, 2, none⟩ x2).setCell ⟨g, 3, none⟩ x3).setCell ⟨g, 4, none⟩ x4).setCell ⟨g, 5, none⟩ x5).setCell ⟨g, 6, none⟩ x6).heap[g]? = some (.cells #[x0, x1, x2, x3, x4, x5, x6] t fr) := by
  rw [setCell_heap (setCell_heap (setCell_heap (setCell_heap (setCell_heap (setCell_heap (setCell_heap h 0 x0) 1 x1) 2 x2) 3 x3) 4 x4) 5 x5) 6 x6]
  rfl
/-- The world at Count's call of cell. -/
theorem count_four (w : World) (vals : Array Value) (x : Num) (W : World) (hW : W = (((w.alloc (.cells vals 38)).alloc (.cells #[.int .i64 x.W, .int .u64 x.Hi, .int .u64 x.Lo] 45)).alloc (.cells zeroVals 38)).alloc (.cells vals 63)) :
    W.heap[w.heap.size + 1 + 1 + 1]? = some (.cells vals 63 (0, 0)) ∧ W.heap[w.heap.size + 1 + 1]? = some (.cells zeroVals 38 (0, 0)) ∧ Below w.heap.size w W ∧ W.heap.size = w.heap.size + 4 := by
  subst hW
  have s1 := sizeLit w (.cells vals 38)
  have s2 := sizeLit (w.alloc (.cells vals 38)) (.cells #[.int .i64 x.W, .int .u64 x.Hi, .int .u64 x.Lo] 45)
  have s3 := sizeLit ((w.alloc (.cells vals 38)).alloc (.cells #[.int .i64 x.W, .int .u64 x.Hi, .int .u64 x.Lo] 45)) (.cells zeroVals 38)
  have s4 := sizeLit (((w.alloc (.cells vals 38)).alloc (.cells #[.int .i64 x.W, .int .u64 x.Hi, .int .u64 x.Lo] 45)).alloc (.cells zeroVals 38)) (.cells vals 63)
  exact ⟨heapLit _ _ _ _ (by omega), heapOld _ _ _ _ (heapLit _ _ _ _ (by omega)), ((((Below.refl _ _).alloc (Nat.le_refl _) _).alloc (by omega) _).alloc (by omega) _).alloc (by omega) _, by omega⟩

set_option maxRecDepth 100000 in
set_option maxHeartbeats 800000 in
theorem Count_out (a : Arr) (ho : a.ok) (hkd : a.kd = 4) (A : Option Addr) (n c : Nat) (B : Option Addr) (m d k : Nat) (hBd : B = none → d = 0) (x : Num) (hxw : x.wf) (hxo : x.ok) (hx0 : x.Hi = 0) (hxk : x.Lo = (k : Int)) (hk : n ≤ k) (hkb : k ≤ 18446744073709551615) (w : World) (hR : ReadsNums w A n a.cs) (hS : Reads w .i64 B m a.ls) :
    Calls Try.prog 10 #[.agg (a.vals A n c B m d), x.v] w fun e w' => e = .returned (.tuple #[.agg zeroVals, .int .i64 11]) ∧ Below w.heap.size w w' := by
  obtain ⟨h1, h2, h3, h4⟩ := count_four w (a.vals A n c B m d) x _ rfl
  have hbl : ∀ ad, A = some ad → 0 < n → ad.block < w.heap.size := fun ad e h0 => by
    obtain ⟨b, off, e1, e2, _⟩ := hR.2.2 h0
    rw [e1] at e; cases e; exact e2
  have hbl2 := hS.block_lt
  have HC := aside (cell_out a ho A n c B m d (w.heap.size + 1 + 1 + 1) k hBd x hxw hxo hx0 hxk hk hkb _ (hR.below h3) (hS.below h3) h1 (fun ad e h0 => by have := hbl ad e h0; omega) (fun ad e h0 => by have := hbl2 ad e h0; omega))
  have H2 := aside h2
  have H3 := aside h3
  have H4 := aside h4
  obtain ⟨xW, xh, xl⟩ := x
  obtain ⟨nm, kd, aW, aR, aB, cs, ls⟩ := a
  simp only [Num.v, Arr.vals, zeroVals] at *
  subst hx0 hxk hkd
  clear hR hS ho hxw hxo hbl hbl2 h1 h2 h3 h4
  go_enter Try.func10, Try.ntmps10
  go_wp2_with fail
  refine Calls.mono HC.out ?_
  rintro e w1 ⟨rfl, hb1⟩
  have hz := (hb1.block _ (Array.getElem?_eq_some_iff.1 H2.out).1).trans H2.out
  have z0 := cellOf hz 0
  have z1 := cellOf hz 1
  have z2 := cellOf hz 2
  have z3 := cellOf hz 3
  have z4 := cellOf hz 4
  have z5 := cellOf hz 5
  have z6 := cellOf hz 6
  have fz := frozenOf hz
  have hle : w.heap.size ≤ w.heap.size + 1 + 1 := by omega
  go_wp2_with fail
  refine bodyPost_ret (results_row_tmp rfl _ _ (w.heap.size + 1 + 1) 38 _ (0, 0) _ rfl (set7 hz _ _ _ _ _ _ _) Try.underlying38 rfl (by kernel_rfl)) rfl ⟨rfl, ?_⟩
  have hb := H3.out.trans (hb1.mono H3.out.size)
  exact ((((((hb.setCell (p := ⟨_, 0, none⟩) hle _).setCell (p := ⟨_, 1, none⟩) hle _).setCell (p := ⟨_, 2, none⟩) hle _).setCell (p := ⟨_, 3, none⟩) hle _).setCell (p := ⟨_, 4, none⟩) hle _).setCell (p := ⟨_, 5, none⟩) hle _).setCell (p := ⟨_, 6, none⟩) hle _
theorem numsV_set2 (l : List Num) : ∀ k, k < l.length → ∀ lo, (numsV l).set (k * 3 + 2) (.int .u64 lo) = numsV (l.set k ⟨(l.getD k zeroNum).W, (l.getD k zeroNum).Hi, lo⟩) := by
  induction l with
  | nil => intro k hk; simp at hk
  | cons x l ih =>
    intro k hk lo
    have e : ∀ (x : Num) (l : List Num), numsV (x :: l) = .int .i64 x.W :: .int .u64 x.Hi :: .int .u64 x.Lo :: numsV l := fun x l => by unfold numsV; rw [List.flatMap_cons]; rfl
    cases k with
    | zero => rw [e, List.set_cons_zero, e]; rfl
    | succ k =>
      rw [List.set_cons_succ, e, e, show (k + 1) * 3 + 2 = k * 3 + 2 + 1 + 1 + 1 by omega, List.set_cons_succ, List.set_cons_succ, List.set_cons_succ, ih k (by simpa using hk) lo, List.getD_cons_succ]
theorem cell_four (a : Arr) (ho : a.ok) (A : Option Addr) (n c : Nat) (B : Option Addr) (m d k : Nat) (hBd : B = none → d = 0) (x : Num) (hxw : x.wf) (hxo : x.ok) (hx0 : x.Hi = 0) (hxk : x.Lo = (k : Int)) (hk : k < n) (w : World) (hR : ReadsNums w A n a.cs) (hS : Reads w .i64 B m a.ls)
    (W : World) (hW : W = (((w.alloc (.cells (a.vals A n c B m d) 38)).alloc (.cells #[.int .i64 x.W, .int .u64 x.Hi, .int .u64 x.Lo] 45)).alloc (.cells zeroVals 38)).alloc (.cells (a.vals A n c B m d) 63)) :
    Calls Try.prog 21 #[.pointer (some ⟨w.heap.size + 1 + 1 + 1, 0, none⟩), .int .u8 a.kd, x.v] W fun e w1 => ∃ g B', e = .returned (.tuple #[.pointer (some ⟨g, k * 3, none⟩), .int .i64 (k : Int), .int .i64 0]) ∧
      w.heap.size + 4 ≤ g ∧ w1.heap[g]? = some (.cells (numsV a.cs).toArray 45 (0, 0)) ∧ w1.heap[w.heap.size + 1 + 1 + 1]? = some (.cells (a.vals (some ⟨g, 0, none⟩) n n B' m m) 63 (0, 0)) ∧ w1.heap[w.heap.size + 1 + 1]? = some (.cells zeroVals 38 (0, 0)) ∧ Reads w1 .i64 B' m a.ls ∧ (B' = none ∨ ∃ b, B' = some ⟨b, 0, none⟩ ∧ g < b) ∧ Below w.heap.size w w1 := by
  obtain ⟨h1, h2, h3, h4⟩ := count_four w (a.vals A n c B m d) x W hW
  have hbl : ∀ ad, A = some ad → 0 < n → ad.block < w.heap.size := fun ad e h0 => by
    obtain ⟨b, off, e1, e2, _⟩ := hR.2.2 h0
    rw [e1] at e; cases e; exact e2
  have hbl2 := hS.block_lt
  refine Calls.mono (cell_in a ho A n c B m d (w.heap.size + 1 + 1 + 1) k hBd x hxw hxo hx0 hxk hk W (hR.below h3) (hS.below h3) h1 (fun ad e h0 => by have := hbl ad e h0; omega) (fun ad e h0 => by have := hbl2 ad e h0; omega)) ?_
  rintro e w1 ⟨g, B', rfl, hg0, hg1, hp1, hR1, hB1, hF1⟩
  exact ⟨g, B', rfl, by omega, hg1, hp1, hF1.blk h2 (by omega), hR1, hB1, h3.trans (hF1.below (fun i hi => by omega) (by omega))⟩

set_option maxRecDepth 100000 in
set_option maxHeartbeats 800000 in
theorem Count_in (a : Arr) (ho : a.ok) (hkd : a.kd = 4) (A : Option Addr) (n c : Nat) (B : Option Addr) (m d k : Nat) (hBd : B = none → d = 0) (x'W x'H x'L : Int) (hxx : a.cs.getD k zeroNum = ⟨x'W, x'H, x'L⟩) (x : Num) (hxw : x.wf) (hxo : x.ok) (hx0 : x.Hi = 0) (hxk : x.Lo = (k : Int)) (hk : k < n) (w : World) (hR : ReadsNums w A n a.cs) (hS : Reads w .i64 B m a.ls) :
    Calls Try.prog 10 #[.agg (a.vals A n c B m d), x.v] w fun e w' => ∃ g B', e = .returned (.tuple #[.agg ({ a with cs := a.cs.set k ⟨x'W, x'H, IntKind.u64.wrap (x'L + 1)⟩ }.vals (some ⟨g, 0, none⟩) n n B' m m), .int .i64 0]) ∧ w.heap.size ≤ g ∧ w'.heap[g]? = some (.cells (numsV (a.cs.set k ⟨x'W, x'H, IntKind.u64.wrap (x'L + 1)⟩)).toArray 45 (0, 0)) ∧ Reads w' .i64 B' m a.ls ∧ (B' = none ∨ ∃ b, B' = some ⟨b, 0, none⟩ ∧ g < b) ∧ Below w.heap.size w w' := by
  have HC := aside (cell_four a ho A n c B m d k hBd x hxw hxo hx0 hxk hk w hR hS _ rfl)
  have hkl : k < a.cs.length := by rw [hR.1]; exact hk
  have HSET := aside (numsV_set2 a.cs k hkl (IntKind.u64.wrap (x'L + 1)))
  have HGET := aside (numsV_get a.cs k hkl)
  rw [hxx] at HSET HGET
  obtain ⟨xW, xh, xl⟩ := x
  obtain ⟨nm, kd, aW, aR, aB, cs, ls⟩ := a
  simp only [Num.v, Arr.vals, zeroVals] at *
  subst hx0 hxk hkd
  clear hR hS ho hxw hxo hxx hkl
  go_enter Try.func10, Try.ntmps10
  go_wp2_with fail
  refine Calls.mono HC.out ?_
  rintro e w1 ⟨g, B', rfl, hg0, hg1, hp1, hz, hR1, hB1, hb1⟩
  have q0 := cellOf hp1 0
  have q1 := cellOf hp1 1
  have q2 := cellOf hp1 2
  have q3 := cellOf hp1 3
  have q4 := cellOf hp1 4
  have q5 := cellOf hp1 5
  have q6 := cellOf hp1 6
  have z0 := cellOf hz 0
  have z1 := cellOf hz 1
  have z2 := cellOf hz 2
  have z3 := cellOf hz 3
  have z4 := cellOf hz 4
  have z5 := cellOf hz 5
  have z6 := cellOf hz 6
  have fz := frozenOf hz
  have fg := frozenOf hg1
  have g2 : w1.cell? ⟨g, k * 3 + 2, none⟩ = some (.int .u64 x'L) := (cellOf hg1 _).trans (by rw [List.getElem?_toArray]; exact HGET.out.2.2)
  have hn1 : ¬ g = w.heap.size + 1 + 1 + 1 := by omega
  have hn2 : ¬ g = w.heap.size + 1 + 1 := by omega
  have hn3 : ¬ w.heap.size + 1 + 1 + 1 = g := by omega
  have hn4 : ¬ w.heap.size + 1 + 1 = g := by omega
  simp only [List.getElem?_toArray, List.getElem?_cons_zero, List.getElem?_cons_succ] at q0 q1 q2 q3 q4 q5 q6 z0 z1 z2 z3 z4 z5 z6
  have HG1 := aside hg1
  have HP1 := aside hp1
  have HZ := aside hz
  clear hg1 hp1 hz
  go_wp2_with fail
  have hX := setOther HZ.out (p := ⟨g, k * 3 + 2, none⟩) (v := .int .u64 (IntKind.u64.wrap (x'L + 1))) hn2
  have hG := setCell_heap HG1.out (k * 3 + 2) (.int .u64 (IntKind.u64.wrap (x'L + 1)))
  rw [List.setIfInBounds_toArray, HSET.out] at hG
  have hle : w.heap.size ≤ w.heap.size + 1 + 1 := by omega
  have hle2 : w.heap.size ≤ g := by omega
  refine bodyPost_ret (results_row_tmp rfl _ _ (w.heap.size + 1 + 1) 38 _ (0, 0) _ rfl (set7 hX _ _ _ _ _ _ _) Try.underlying38 rfl (by kernel_rfl)) rfl ⟨g, B', rfl, hle2, ?_, ?_, hB1, ?_⟩
  · exact setOther (setOther (setOther (setOther (setOther (setOther (setOther hG hn4) hn4) hn4) hn4) hn4) hn4) hn4
  · refine hR1.foot (F := fun i => i = g ∨ i = w.heap.size + 1 + 1) (((((((((Foot.refl (fun i => i = g ∨ i = w.heap.size + 1 + 1) w1).setCell (p := ⟨g, k * 3 + 2, none⟩) (.inl (.inl rfl)) (.int .u64 (IntKind.u64.wrap (x'L + 1)))).setCell (p := ⟨w.heap.size + 1 + 1, 0, none⟩) (.inl (.inr rfl)) _).setCell (p := ⟨w.heap.size + 1 + 1, 1, none⟩) (.inl (.inr rfl)) _).setCell (p := ⟨w.heap.size + 1 + 1, 2, none⟩) (.inl (.inr rfl)) _).setCell (p := ⟨w.heap.size + 1 + 1, 3, none⟩) (.inl (.inr rfl)) _).setCell (p := ⟨w.heap.size + 1 + 1, 4, none⟩) (.inl (.inr rfl)) _).setCell (p := ⟨w.heap.size + 1 + 1, 5, none⟩) (.inl (.inr rfl)) _).setCell (p := ⟨w.heap.size + 1 + 1, 6, none⟩) (.inl (.inr rfl)) _) fun ad e h0 => ?_
    rcases hB1 with h | ⟨b, h, h5⟩
    · rw [h] at e; cases e
    · rw [h] at e; cases e; show ¬ (b = g ∨ b = w.heap.size + 1 + 1); omega
  · exact (((((((hb1.setCell (p := ⟨g, k * 3 + 2, none⟩) hle2 _).setCell (p := ⟨_, 0, none⟩) hle _).setCell (p := ⟨_, 1, none⟩) hle _).setCell (p := ⟨_, 2, none⟩) hle _).setCell (p := ⟨_, 3, none⟩) hle _).setCell (p := ⟨_, 4, none⟩) hle _).setCell (p := ⟨_, 5, none⟩) hle _).setCell (p := ⟨_, 6, none⟩) hle _
end Go.Proofs.Ytanimonhnngfkaa
