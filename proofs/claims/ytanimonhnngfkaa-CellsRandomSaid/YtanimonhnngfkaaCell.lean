/-
  The cell of an array that may be, in a copy of its cells.
-/
import Derived.Test.YtanimonhnngfkaaClone
import Derived.Test.YtanimonhnngfkaaCheck
set_option linter.unusedVariables false
set_option linter.unusedSimpArgs false
namespace Go.Proofs.Ytanimonhnngfkaa
open Go.RowKit

/-- The box of the place, and the array's box. -/
structure CL (w : World) (bx p : Nat) (x : Num) (vals : Array Value) (W : World) : Prop where
  hx : W.heap[bx]? = some (.cells #[.int .i64 x.W, .int .u64 x.Hi, .int .u64 x.Lo] 45 (0, 0))
  hp : W.heap[p]? = some (.cells vals 63 (0, 0))
  below : Below w.heap.size w W
theorem CL.next {w : World} {bx p : Nat} {x : Num} {vals : Array Value} {W W' : World} (h : CL w bx p x vals W) (hb : Below W.heap.size W W') : CL w bx p x vals W' :=
  ⟨(hb.block _ (Array.getElem?_eq_some_iff.1 h.hx).1).trans h.hx, (hb.block _ (Array.getElem?_eq_some_iff.1 h.hp).1).trans h.hp, h.below.trans (hb.mono h.below.size)⟩

set_option maxRecDepth 100000 in
set_option maxHeartbeats 4000000 in
theorem cell_in (a : Arr) (ho : a.ok) (A : Option Addr) (n c : Nat) (B : Option Addr) (m d p k : Nat) (hBd : B = none → d = 0) (x : Num) (hxw : x.wf) (hxo : x.ok) (hx0 : x.Hi = 0) (hxk : x.Lo = (k : Int)) (hk : k < n) (w : World) (hR : ReadsNums w A n a.cs) (hS : Reads w .i64 B m a.ls) (hp : w.heap[p]? = some (.cells (a.vals A n c B m d) 63 (0, 0)))
    (hAp : ∀ ad, A = some ad → 0 < n → ad.block ≠ p) (hBp : ∀ ad, B = some ad → 0 < m → ad.block ≠ p) :
    Calls Try.prog 21 #[.pointer (some ⟨p, 0, none⟩), .int .u8 a.kd, x.v] w fun e w' => ∃ g B', e = .returned (.tuple #[.pointer (some ⟨g, k * 3, none⟩), .int .i64 (k : Int), .int .i64 0]) ∧
      w.heap.size ≤ g ∧ w'.heap[g]? = some (.cells (numsV a.cs).toArray 45 (0, 0)) ∧ w'.heap[p]? = some (.cells (a.vals (some ⟨g, 0, none⟩) n n B' m m) 63 (0, 0)) ∧ Reads w' .i64 B' m a.ls ∧ (B' = none ∨ ∃ b, B' = some ⟨b, 0, none⟩ ∧ g < b) ∧ Foot (fun i => i = p) w w' := by
  have hplt := (Array.getElem?_eq_some_iff.1 hp).1
  have hB1 : Below w.heap.size w (w.alloc (.cells #[.int .i64 x.W, .int .u64 x.Hi, .int .u64 x.Lo] 45)) := (Below.refl _ _).alloc (Nat.le_refl _) _
  have hC : CL w w.heap.size p x (a.vals A n c B m d) (w.alloc (.cells #[.int .i64 x.W, .int .u64 x.Hi, .int .u64 x.Lo] 45)) := ⟨heap_alloc_new _ _, heapOld _ _ _ _ hp, hB1⟩
  have HMAY : Aside (∀ V, CL w w.heap.size p x (a.vals A n c B m d) V → Calls Try.prog 20 #[.pointer (some ⟨p, 0, none⟩)] V fun e w' => e = .returned (.bool true) ∧ Below V.heap.size V w') :=
    fun V hV => may_ok a ho A n c B m d p V (hR.below hV.below) (hS.below hV.below) hV.hp
  have HCHK : Aside (∀ V, Calls Try.prog 27 #[x.v] V fun e w' => e = .returned (.bool true) ∧ Below V.heap.size V w') := fun V => check_good x hxw hxo V
  have HRS : Aside (∀ V, CL w w.heap.size p x (a.vals A n c B m d) V → ReadsNums V A n a.cs ∧ Reads V .i64 B m a.ls) := fun V hV => ⟨hR.below hV.below, hS.below hV.below⟩
  have hnl : a.cs.length = n := hR.1
  have hl := ho.len
  rw [hnl] at hl
  have hml : m ≤ 4096 := by
    have h1 := ho.scal
    have h2 : a.ls.length = m := hS.1
    rcases ho.kd with k | k | k
    · rw [(h1.1 (by omega)).2.2] at h2; simp at h2; omega
    · rw [(h1.1 (by omega)).2.2] at h2; simp at h2; omega
    · have := (h1.2.2.2 k).2.2.2.2; omega
  have HCL : Aside (∀ (V : World), CL w w.heap.size p x (a.vals A n c B m d) V → (V.cell? ⟨w.heap.size, 0, none⟩ = some (.int .i64 x.W) ∧ V.cell? ⟨w.heap.size, 1, none⟩ = some (.int .u64 x.Hi) ∧ V.cell? ⟨w.heap.size, 2, none⟩ = some (.int .u64 x.Lo)) ∧ (V.cell? ⟨p, 1, none⟩ = some (.int .u8 a.kd) ∧ V.cell? ⟨p, 5, none⟩ = some (.slice A n c) ∧ V.cell? ⟨p, 6, none⟩ = some (.slice B m d))) :=
    fun V h => ⟨⟨cellOf h.hx 0, cellOf h.hx 1, cellOf h.hx 2⟩, cellOf h.hp 1, cellOf h.hp 5, cellOf h.hp 6⟩
  obtain ⟨⟨k0, k1, k2⟩, k3, k5, k6⟩ := HCL.out _ hC
  obtain ⟨xW, xh, xl⟩ := x
  simp only at hx0 hxk k0 k1 k2
  subst hx0 hxk
  have HC : Aside _ := hC
  have HAP : Aside _ := hAp
  have HBP : Aside _ := hBp
  unfold Num.v at *
  have hwr : IntKind.u64.wrap (n : Int) = (n : Int) := by rw [IntKind.wrap_u64]; omega
  have hwi : IntKind.i64.wrap (k : Int) = (k : Int) := by rw [IntKind.wrap_i64]; omega
  have hkd : decide (n ≤ k) = false := decide_eq_false (by omega)
  have hmk := makeNums n (by omega)
  clear hC hB1 hxw hxo hR hS hp hAp hBp
  go_enter Try.func21, Try.ntmps21
  go_wp2_with fail
  refine Calls.mono (HMAY.out _ HC.out) ?_
  rintro e w1 ⟨rfl, hb1⟩
  have hC1 := HC.out.next hb1
  clear k0 k1 k2 k3 k5 k6
  obtain ⟨⟨k0, k1, k2⟩, k3, k5, k6⟩ := HCL.out _ hC1
  go_wp2_with fail
  refine Calls.mono (HCHK.out _) ?_
  rintro e w2 ⟨rfl, hb2⟩
  have hC2 := hC1.next hb2
  clear k0 k1 k2 k3 k5 k6
  obtain ⟨⟨k0, k1, k2⟩, k3, k5, k6⟩ := HCL.out _ hC2
  go_wp2_with fail
  go_quiet (fail)
  have hC3 := hC2.next (below_drewN (Below.refl _ _) nq)
  generalize w2.drewN nq = V at *
  clear k0 k1 k2 k3 k5 k6 hC1 hC2 hb1 hb2 HMAY HCHK HC
  obtain ⟨⟨k0, k1, k2⟩, k3, k5, k6⟩ := HCL.out _ hC3
  obtain ⟨hRn, hSn⟩ := HRS.out _ hC3
  obtain ⟨b, off, hA, hsrc⟩ := nums_src hRn (by omega)
  subst hA
  have hbV : Below V.heap.size V (V.alloc (.cells (madeCells #[.int .i64 0, .int .u64 0, .int .u64 0] (n * 3)) 45)) := (Below.refl _ _).alloc (Nat.le_refl _) _
  have hV0 : (V.alloc (.cells (madeCells #[.int .i64 0, .int .u64 0, .int .u64 0] (n * 3)) 45)).heap[V.heap.size]? = some (.cells (numsV (List.replicate n zeroNum)).toArray 45 (0, 0)) := by
    rw [heap_alloc_new]
    have e : madeCells #[.int .i64 0, .int .u64 0, .int .u64 0] (n * 3) = (numsV (List.replicate n zeroNum)).toArray := by
      rw [← Array.toList_inj, madeNums]
    rw [e]
  have k5a := (hbV.cell (p := ⟨p, 5, none⟩) (Array.getElem?_eq_some_iff.1 hC3.hp).1).trans k5
  obtain ⟨W1, hrun, hg1, hB1⟩ := copy_nums (V.alloc (.cells (madeCells #[.int .i64 0, .int .u64 0, .int .u64 0] (n * 3)) 45)) V.heap.size V 30 30 3 n V.heap.size 0 n n ⟨b, off, none⟩ n c (List.replicate n zeroNum) a.cs Try.underlying30 hV0 (by show n = min n n; omega) hnl (fun j v hv => (hbV.cell (p := (⟨b, off, none⟩ : Addr).add j) (by
    rw [add_block]
    obtain ⟨b', off', e1, e2, _⟩ := hRn.2.2 (by omega)
    cases e1; exact e2)).trans (hsrc j v hv)) (by simp) hbV (Nat.le_refl _)
  have hg1' : W1.heap[V.heap.size]? = some (.cells (numsV a.cs).toArray 45 (0, 0)) := by
    rw [hg1]
    have e : (numsV (List.replicate n zeroNum)).drop (0 + (numsV a.cs).length) = [] := List.drop_eq_nil_of_le (by rw [numsV_length, numsV_length, hnl]; simp)
    rw [e]
    simp
  have hp1 := (hB1.block _ (Array.getElem?_eq_some_iff.1 hC3.hp).1).trans hC3.hp
  have hx1 := (hB1.block _ (Array.getElem?_eq_some_iff.1 hC3.hx).1).trans hC3.hx
  have hS1 := hSn.below hB1
  have q5 := cellOf hp1 5
  have q6 := cellOf hp1 6
  have f5 := frozenOf hp1 5
  simp only [show ∀ (A : Option Addr) n c B m d, (a.vals A n c B m d)[5]? = some (.slice A n c) from fun _ _ _ _ _ _ => rfl, show ∀ (A : Option Addr) n c B m d, (a.vals A n c B m d)[6]? = some (.slice B m d) from fun _ _ _ _ _ _ => rfl] at q5 q6
  go_wp2_with fail
  have hpV : p < V.heap.size := (Array.getElem?_eq_some_iff.1 hC3.hp).1
  have hVw := hC3.below.size
  have hp2 : (W1.setCell ⟨p, 5, none⟩ (.slice (some ⟨V.heap.size, 0, none⟩) n n)).heap[p]? = some (.cells (a.vals (some ⟨V.heap.size, 0, none⟩) n n B m d) 63 (0, 0)) := setCell_heap hp1 5 _
  have hx2 : (W1.setCell ⟨p, 5, none⟩ (.slice (some ⟨V.heap.size, 0, none⟩) n n)).heap[w.heap.size]? = _ := setOther hx1 (by show p ≠ w.heap.size; omega)
  have hg2 : (W1.setCell ⟨p, 5, none⟩ (.slice (some ⟨V.heap.size, 0, none⟩) n n)).heap[V.heap.size]? = _ := setOther hg1' (by show p ≠ V.heap.size; omega)
  have hS2 : Reads (W1.setCell ⟨p, 5, none⟩ (.slice (some ⟨V.heap.size, 0, none⟩) n n)) .i64 B m a.ls := hS1.foot ((Foot.refl (fun i => i = p) W1).setCell (.inl rfl) _) (fun ad e h0 => HBP.out ad e h0)
  have HF : Aside (Foot (fun i => i = p) w (W1.setCell ⟨p, 5, none⟩ (.slice (some ⟨V.heap.size, 0, none⟩) n n))) := (Foot.ofBelow (hC3.below.trans (hB1.mono hVw)) (fun i => i = p)).setCell (p := ⟨p, 5, none⟩) (.inl rfl) _
  generalize W1.setCell ⟨p, 5, none⟩ (.slice (some ⟨V.heap.size, 0, none⟩) n n) = X1 at *
  clear k0 k1 k2 k3 k5 k6 k5a q5 q6 f5 hrun hmk hp1 hx1 hg1 hg1' hS1 hB1 hV0 hbV hsrc hRn hSn HRS HCL HAP HBP hwr hkd
  refine Calls.mono (Clone_any B m d a.ls X1 hS2 hml hBd) ?_
  rintro e w3 ⟨v, rfl, hO, hb3⟩
  go_wp2_with fail
  refine Calls.mono (Clip_any v m _ a.ls w3 hO hml) ?_
  rintro e w4 ⟨B', rfl, hB', hR', rfl⟩
  have hp3 := (hb3.block _ (Array.getElem?_eq_some_iff.1 hp2).1).trans hp2
  have hx3 := (hb3.block _ (Array.getElem?_eq_some_iff.1 hx2).1).trans hx2
  have hg3 := (hb3.block _ (Array.getElem?_eq_some_iff.1 hg2).1).trans hg2
  have q6 := cellOf hp3 6
  have f6 := frozenOf hp3 6
  simp only [show ∀ (A : Option Addr) n c B m d, (a.vals A n c B m d)[6]? = some (.slice B m d) from fun _ _ _ _ _ _ => rfl] at q6
  go_wp2_with fail
  have hpX : p < X1.heap.size := (Array.getElem?_eq_some_iff.1 hp2).1
  have hgX : V.heap.size < X1.heap.size := (Array.getElem?_eq_some_iff.1 hg2).1
  have hp4 : (w4.setCell ⟨p, 6, none⟩ (.slice B' m m)).heap[p]? = some (.cells (a.vals (some ⟨V.heap.size, 0, none⟩) n n B' m m) 63 (0, 0)) := setCell_heap hp3 6 _
  have hx4 : (w4.setCell ⟨p, 6, none⟩ (.slice B' m m)).heap[w.heap.size]? = _ := setOther hx3 (by show p ≠ w.heap.size; omega)
  have hg4 : (w4.setCell ⟨p, 6, none⟩ (.slice B' m m)).heap[V.heap.size]? = _ := setOther hg3 (by show p ≠ V.heap.size; omega)
  have hR4 : Reads (w4.setCell ⟨p, 6, none⟩ (.slice B' m m)) .i64 B' m a.ls := hR'.foot ((Foot.refl (fun i => i = p) w4).setCell (.inl rfl) _) (fun ad e h0 => by
    rcases hB' with h | ⟨b, h, h5⟩
    · rw [h] at e; cases e
    · rw [h] at e; cases e; show ¬ b = p; omega)
  have HF4 : Aside (Foot (fun i => i = p) w (w4.setCell ⟨p, 6, none⟩ (.slice B' m m))) := (HF.out.trans (Foot.ofBelow hb3 (fun _ => False)) (fun i h => h.elim)).setCell (p := ⟨p, 6, none⟩) (.inl rfl) _
  have HBB : Aside (B' = none ∨ ∃ b, B' = some ⟨b, 0, none⟩ ∧ V.heap.size < b) := hB'.imp id (fun ⟨b, h1, h2⟩ => ⟨b, h1, by omega⟩)
  generalize w4.setCell ⟨p, 6, none⟩ (.slice B' m m) = X2 at *
  have k2 := cellOf hx4 2
  have k5 := cellOf hp4 5
  simp only [show ∀ (A : Option Addr) n c B m d, (a.vals A n c B m d)[5]? = some (.slice A n c) from fun _ _ _ _ _ _ => rfl] at k5
  replace k2 : X2.cell? ⟨w.heap.size, 2, none⟩ = some (.int .u64 (k : Int)) := k2
  have hk0 : (0 : Int) ≤ (k : Int) := by omega
  have hk1 : (k : Int) < (n : Int) := by omega
  have HG4 : Aside _ := hg4
  have HP4 : Aside _ := hp4
  clear q6 f6 hp3 hx3 hg3 hp2 hx2 hg2 hS2 hO hb3 hR' HF hB' hg4 hp4 hx4
  go_quiet (fail)
  go_wp2
  go_ret3
  exact ⟨V.heap.size, B', rfl, hVw, HG4.out, HP4.out, hR4, HBB.out, HF4.out.drewN _⟩
set_option maxRecDepth 100000 in
set_option maxHeartbeats 4000000 in
theorem cell_out (a : Arr) (ho : a.ok) (A : Option Addr) (n c : Nat) (B : Option Addr) (m d p k : Nat) (hBd : B = none → d = 0) (x : Num) (hxw : x.wf) (hxo : x.ok) (hx0 : x.Hi = 0) (hxk : x.Lo = (k : Int)) (hk : n ≤ k) (hkb : k ≤ 18446744073709551615) (w : World) (hR : ReadsNums w A n a.cs) (hS : Reads w .i64 B m a.ls) (hp : w.heap[p]? = some (.cells (a.vals A n c B m d) 63 (0, 0)))
    (hAp : ∀ ad, A = some ad → 0 < n → ad.block ≠ p) (hBp : ∀ ad, B = some ad → 0 < m → ad.block ≠ p) :
    Calls Try.prog 21 #[.pointer (some ⟨p, 0, none⟩), .int .u8 a.kd, x.v] w fun e w' => e = .returned (.tuple #[.pointer none, .int .i64 0, .int .i64 11]) ∧ Below w.heap.size w w' := by
  have hplt := (Array.getElem?_eq_some_iff.1 hp).1
  have hB1 : Below w.heap.size w (w.alloc (.cells #[.int .i64 x.W, .int .u64 x.Hi, .int .u64 x.Lo] 45)) := (Below.refl _ _).alloc (Nat.le_refl _) _
  have hC : CL w w.heap.size p x (a.vals A n c B m d) (w.alloc (.cells #[.int .i64 x.W, .int .u64 x.Hi, .int .u64 x.Lo] 45)) := ⟨heap_alloc_new _ _, heapOld _ _ _ _ hp, hB1⟩
  have HMAY : Aside (∀ V, CL w w.heap.size p x (a.vals A n c B m d) V → Calls Try.prog 20 #[.pointer (some ⟨p, 0, none⟩)] V fun e w' => e = .returned (.bool true) ∧ Below V.heap.size V w') :=
    fun V hV => may_ok a ho A n c B m d p V (hR.below hV.below) (hS.below hV.below) hV.hp
  have HCHK : Aside (∀ V, Calls Try.prog 27 #[x.v] V fun e w' => e = .returned (.bool true) ∧ Below V.heap.size V w') := fun V => check_good x hxw hxo V
  have HRS : Aside (∀ V, CL w w.heap.size p x (a.vals A n c B m d) V → ReadsNums V A n a.cs ∧ Reads V .i64 B m a.ls) := fun V hV => ⟨hR.below hV.below, hS.below hV.below⟩
  have hnl : a.cs.length = n := hR.1
  have hl := ho.len
  rw [hnl] at hl
  have hml : m ≤ 4096 := by
    have h1 := ho.scal
    have h2 : a.ls.length = m := hS.1
    rcases ho.kd with k | k | k
    · rw [(h1.1 (by omega)).2.2] at h2; simp at h2; omega
    · rw [(h1.1 (by omega)).2.2] at h2; simp at h2; omega
    · have := (h1.2.2.2 k).2.2.2.2; omega
  have HCL : Aside (∀ (V : World), CL w w.heap.size p x (a.vals A n c B m d) V → (V.cell? ⟨w.heap.size, 0, none⟩ = some (.int .i64 x.W) ∧ V.cell? ⟨w.heap.size, 1, none⟩ = some (.int .u64 x.Hi) ∧ V.cell? ⟨w.heap.size, 2, none⟩ = some (.int .u64 x.Lo)) ∧ (V.cell? ⟨p, 1, none⟩ = some (.int .u8 a.kd) ∧ V.cell? ⟨p, 5, none⟩ = some (.slice A n c) ∧ V.cell? ⟨p, 6, none⟩ = some (.slice B m d))) :=
    fun V h => ⟨⟨cellOf h.hx 0, cellOf h.hx 1, cellOf h.hx 2⟩, cellOf h.hp 1, cellOf h.hp 5, cellOf h.hp 6⟩
  obtain ⟨⟨k0, k1, k2⟩, k3, k5, k6⟩ := HCL.out _ hC
  obtain ⟨xW, xh, xl⟩ := x
  simp only at hx0 hxk k0 k1 k2
  subst hx0 hxk
  have HC : Aside _ := hC
  have HAP : Aside _ := hAp
  have HBP : Aside _ := hBp
  unfold Num.v at *
  have hwr : IntKind.u64.wrap (n : Int) = (n : Int) := by rw [IntKind.wrap_u64]; omega
  have hkd : decide (n ≤ k) = true := decide_eq_true hk
  clear hC hB1 hxw hxo hR hS hp hAp hBp
  go_enter Try.func21, Try.ntmps21
  go_wp2_with fail
  refine Calls.mono (HMAY.out _ HC.out) ?_
  rintro e w1 ⟨rfl, hb1⟩
  have hC1 := HC.out.next hb1
  clear k0 k1 k2 k3 k5 k6
  obtain ⟨⟨k0, k1, k2⟩, k3, k5, k6⟩ := HCL.out _ hC1
  go_wp2_with fail
  refine Calls.mono (HCHK.out _) ?_
  rintro e w2 ⟨rfl, hb2⟩
  have hC2 := hC1.next hb2
  clear k0 k1 k2 k3 k5 k6
  obtain ⟨⟨k0, k1, k2⟩, k3, k5, k6⟩ := HCL.out _ hC2
  go_wp2_with fail
  go_quiet (fail)
  have hC3 := hC2.next (below_drewN (Below.refl _ _) nq)
  go_wp2
  go_ret3
  exact ⟨rfl, hC3.below⟩
end Go.Proofs.Ytanimonhnngfkaa
