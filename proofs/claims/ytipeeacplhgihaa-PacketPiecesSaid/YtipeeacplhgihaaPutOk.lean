/-
  packet.Put, of numbers that may be.
-/
import Derived.Test.YtipeeacplhgihaaPut
import Derived.Test.YtipeeacplhgihaaRoundRegion
import Derived.Laws.MakeOwn
set_option linter.unusedVariables false
set_option linter.unusedSimpArgs false
namespace Go.Proofs.Ytipeeacplhgihaa
open Go.RowKit Go.Shelf PkMath
attribute [local go_sem] Oper.semAt_some

theorem makeFull_u8 (m : Nat) (h : m ≤ 140737488355328) : ∀ W : World, (Instr.makeSlice 24 (.int .i64 (m : Int)) (.int .i64 (m : Int))).run Try.prog W = .ok (.slice (some ⟨W.heap.size, 0, none⟩) m m) (W.alloc (.cells (madeCells #[.int .u8 0] m) 5)) := by
  intro W
  obtain ⟨i, hi, hzz⟩ := Option.map_eq_some_iff.1 infoByte
  simp only [Prod.mk.injEq] at hzz
  obtain ⟨hz, hs, hb⟩ := hzz
  have := run_make (P := Try.prog) W 24 5 i (.int .u8 0) Try.underlying24 hi hz .i64 .i64 m m (by omega) (by omega) (by rw [hb]; omega) (by omega)
  rw [hs] at this
  simpa [Value.cells] using this

/-- What Put's loop holds: the bytes, and how many bits were put. -/
def PutAt (B g M : Nat) (bs : List Bool) (W : World) : Prop :=
  (∃ cs : Array Value, cs.size = M ∧ cs.toList = nums .u8 (pack bs M) ∧ W.heap[g]? = some (.cells cs 5 (0, 0))) ∧ Boxed W (g + 1) 24 (.slice (some ⟨g, 0, none⟩) M M) ∧ Boxed W (g + 1 + 1) 3 (.int .i64 (bs.length : Nat))
theorem PutAt.own (B g M : Nat) : Own (PutAt B g M) := by
  rintro bs X Y row ⟨⟨cs, h1, h2, h3⟩, h4, h5⟩ hg hr
  have key : ∀ (k : Nat) (cs : Array Value) (t : TypeId) (fr : Nat × Nat), X.heap[k]? = some (.cells cs t fr) → Y.heap[k]? = some (.cells cs t fr) := fun k cs t fr hk => by
    refine (hg.block k (Array.getElem?_eq_some_iff.1 hk).1 (fun e => ?_)).trans hk
    obtain ⟨o, ho, hc⟩ := hr k e.symm
    rw [hk] at ho; cases ho; cases hc
  exact ⟨⟨cs, h1, h2, key _ _ _ _ h3⟩, key _ _ _ _ h4, key _ _ _ _ h5⟩

theorem pack_false (l : List Bool) (m : Nat) : pack (l ++ [false]) m = pack l m := by
  unfold pack
  apply List.map_congr_left
  intro j _
  rw [packByte_false]
theorem pack_true (l : List Bool) (m : Nat) (h : l.length / 8 < m) : pack (l ++ [true]) m = (pack l m).set (l.length / 8) ((packByte l (l.length / 8) ||| 2 ^ (7 - l.length % 8) : Nat) : Int) := by
  apply List.ext_getElem (by rw [List.length_set, pack_length, pack_length])
  intro j h1 h2
  rw [pack_length] at h1
  have e1 := pack_getD (l ++ [true]) m j h1
  rw [List.getD_eq_getElem?_getD, List.getElem?_eq_getElem (by rw [pack_length]; exact h1)] at e1
  simp only [Option.getD_some] at e1
  rw [e1, List.getElem_set]
  split
  · rename_i e; subst e; rw [packByte_or]
  · rename_i e
    rw [packByte_other _ _ _ (Ne.symm e)]
    have e2 := pack_getD l m j h1
    rw [List.getD_eq_getElem?_getD, List.getElem?_eq_getElem (by rw [pack_length]; exact h1)] at e2
    simp only [Option.getD_some] at e2
    rw [e2]
theorem or_u8 (a b : Nat) (ha : a < 256) (hb : b < 256) : bits .or .u8 (a : Int) (b : Int) = ((a ||| b : Nat) : Int) := by
  show IntKind.u8.wrap ((BitVec.ofInt 8 (a : Int) ||| BitVec.ofInt 8 (b : Int)).toNat : Int) = _
  rw [BitVec.ofInt_natCast, BitVec.ofInt_natCast, BitVec.toNat_or, BitVec.toNat_ofNat, BitVec.toNat_ofNat, Nat.mod_eq_of_lt ha, Nat.mod_eq_of_lt hb]
  have h := Nat.or_lt_two_pow (n := 8) ha hb
  rw [IntKind.wrap_u8]
  omega
theorem shr_128 (r : Nat) (hr : r < 8) : (128 : Int) / 2 ^ r = ((2 ^ (7 - r) : Nat) : Int) := by
  obtain rfl | rfl | rfl | rfl | rfl | rfl | rfl | rfl : r = 0 ∨ r = 1 ∨ r = 2 ∨ r = 3 ∨ r = 4 ∨ r = 5 ∨ r = 6 ∨ r = 7 := by omega
  all_goals decide
theorem or_128 (q r : Nat) (hq : q < 256) (hr : r < 8) : bits .or .u8 (q : Int) ((128 : Int) / 2 ^ r) = ((q ||| 2 ^ (7 - r) : Nat) : Int) := by
  rw [shr_128 r hr, or_u8 _ _ hq (Nat.lt_of_lt_of_le (Nat.pow_lt_pow_right (by decide) (by omega : 7 - r < 8)) (by decide))]

theorem put_false {B g M : Nat} {pre : List Bool} {w W : World} {a : Nat} (hg : B ≤ g) (h : PutAt B g M pre W) (hB : Below B w W) (ha : a = pre.length) (n : Nat) :
    KeepsOthers W (W.setCell ⟨g + 1 + 1, 0, none⟩ (.int .i64 ((a : Int) + 1))) ∧ KeepC (fun b => b = g ∨ b = g + 1 + 1) W (W.setCell ⟨g + 1 + 1, 0, none⟩ (.int .i64 ((a : Int) + 1))) ∧ PutAt B g M (pre ++ [false]) (W.setCell ⟨g + 1 + 1, 0, none⟩ (.int .i64 ((a : Int) + 1))) ∧ Below B w (W.setCell ⟨g + 1 + 1, 0, none⟩ (.int .i64 ((a : Int) + 1))) := by
  obtain ⟨⟨cs, h1, h2, h3⟩, h4, h5⟩ := h
  refine ⟨KeepsOthers.setCell _ _ _, KeepC.ofFoot ((Foot.refl _ W).setCell (p := ⟨_, _, _⟩) (.inl (.inr rfl)) _), ⟨⟨cs, h1, by rw [pack_false]; exact h2, ?_⟩, ?_, ?_⟩, hB.setCell (p := ⟨_, _, _⟩) (by show B ≤ g + 1 + 1; omega) _⟩
  · rw [Below.heap_setCell _ _ _ _ (by show g ≠ g + 1 + 1; omega)]; exact h3
  · show _ = _
    rw [Below.heap_setCell _ _ _ _ (by show g + 1 ≠ g + 1 + 1; omega)]; exact h4
  · have := h5.set (.int .i64 ((a : Int) + 1))
    rw [List.length_append, List.length_singleton, ← ha]
    exact this
theorem put_true {B g M : Nat} {pre : List Bool} {w W : World} {a j r q : Nat} (hg : B ≤ g) (h : PutAt B g M pre W) (hB : Below B w W) (ha : a = pre.length) (hj : j = a / 8) (hr : r = a % 8) (hq : q = packByte pre j) (hjM : j < M) :
    KeepsOthers W ((W.setCell ⟨g, j, none⟩ (.int .u8 (bits .or .u8 (q : Int) ((128 : Int) / 2 ^ r)))).setCell ⟨g + 1 + 1, 0, none⟩ (.int .i64 ((a : Int) + 1))).drew ∧ KeepC (fun b => b = g ∨ b = g + 1 + 1) W ((W.setCell ⟨g, j, none⟩ (.int .u8 (bits .or .u8 (q : Int) ((128 : Int) / 2 ^ r)))).setCell ⟨g + 1 + 1, 0, none⟩ (.int .i64 ((a : Int) + 1))).drew ∧ PutAt B g M (pre ++ [true]) ((W.setCell ⟨g, j, none⟩ (.int .u8 (bits .or .u8 (q : Int) ((128 : Int) / 2 ^ r)))).setCell ⟨g + 1 + 1, 0, none⟩ (.int .i64 ((a : Int) + 1))).drew ∧ Below B w ((W.setCell ⟨g, j, none⟩ (.int .u8 (bits .or .u8 (q : Int) ((128 : Int) / 2 ^ r)))).setCell ⟨g + 1 + 1, 0, none⟩ (.int .i64 ((a : Int) + 1))).drew := by
  obtain ⟨⟨cs, h1, h2, h3⟩, h4, h5⟩ := h
  have hq8 : q < 256 := by rw [hq]; exact packByte_lt _ _
  rw [or_128 q r hq8 (by omega)]
  refine ⟨((KeepsOthers.setCell _ _ _).trans (KeepsOthers.setCell _ _ _)).trans (KeepsOthers.drew _), KeepC.ofFoot (((Foot.refl _ W).setCell (p := ⟨_, _, _⟩) (.inl (.inl rfl)) _).setCell (p := ⟨_, _, _⟩) (.inl (.inr rfl)) _).drew, ⟨⟨cs.setIfInBounds j (.int .u8 ((q ||| 2 ^ (7 - r) : Nat) : Int)), by simpa using h1, ?_, ?_⟩, ?_, ?_⟩, ((hB.setCell (p := ⟨_, _, _⟩) hg _).setCell (p := ⟨_, _, _⟩) (by show B ≤ g + 1 + 1; omega) _).drew⟩
  · rw [pack_true _ _ (by omega), Array.toList_setIfInBounds, h2, nums, nums, List.map_set, ← ha, ← hj, ← hr, ← hq]
  · show ((W.setCell _ _).setCell _ _).heap[g]? = _
    rw [Below.heap_setCell _ _ _ _ (by show g ≠ g + 1 + 1; omega)]
    exact setCell_heap h3 j _
  · show ((W.setCell _ _).setCell _ _).heap[g + 1]? = _
    rw [Below.heap_setCell _ _ _ _ (by show g + 1 ≠ g + 1 + 1; omega), Below.heap_setCell _ _ _ _ (by show g + 1 ≠ g; omega)]
    exact h4
  · have h5' : Boxed (W.setCell ⟨g, j, none⟩ (.int .u8 ((q ||| 2 ^ (7 - r) : Nat) : Int))) (g + 1 + 1) 3 (.int .i64 (pre.length : Nat)) := by
      show _ = _
      rw [Below.heap_setCell _ _ _ _ (by show g + 1 + 1 ≠ g; omega)]; exact h5
    have := h5'.set (.int .i64 ((a : Int) + 1))
    rw [List.length_append, List.length_singleton, ← ha]
    exact this

theorem all_stops (F : Nat → Prop) (Bn : Nat) (A : Option Addr) (n c : Nat) (xs : List Num) (w : World) (hF : 0 < n → ∀ ad, A = some ad → ¬ F ad.block) (hFB : ¬ F Bn) (hFW : ∀ k, F k → k < w.heap.size) (hB : Bn < w.heap.size) (hwf : ∀ j, j < n → (xs.getD j zeroNum).wf ∧ (xs.getD j zeroNum).ok)
    (hBn : w.cell? ⟨Bn, 0, none⟩ = some (.slice A n c)) (hR : ReadsNums w A n xs) :
    SeqStopsK Fence.wide 2 Try.prog 26 #[.pointer (some ⟨Bn, 0, none⟩)] (fun x : Bool => #[.bool x]) (KeepC F) (fun ys => ys = allBits xs) (fun pre => pre <+: allBits xs) (allBits xs).length w :=
  fun l J Jx W hW hJ _ hY h0 => all1_in F l Bn A n c xs hF hFB hwf J Jx W (fun k hk => Nat.lt_of_lt_of_le (hFW k hk) hW.size) hJ hY ((hW.cell (p := ⟨Bn, 0, none⟩) hB).trans hBn) (hR.below hW) h0

theorem alloc4 (w : World) (a b c d : Obj) : ((((w.alloc a).alloc b).alloc c).alloc d).heap[w.heap.size]? = some a ∧ ((((w.alloc a).alloc b).alloc c).alloc d).heap[w.heap.size + 1]? = some b ∧ ((((w.alloc a).alloc b).alloc c).alloc d).heap[w.heap.size + 1 + 1]? = some c ∧ ((((w.alloc a).alloc b).alloc c).alloc d).heap[w.heap.size + 1 + 1 + 1]? = some d ∧ ((((w.alloc a).alloc b).alloc c).alloc d).heap.size = w.heap.size + 4 := by
  have s1 : (w.alloc a).heap.size = w.heap.size + 1 := by simp
  have s2 : ((w.alloc a).alloc b).heap.size = w.heap.size + 2 := by simp
  have s3 : (((w.alloc a).alloc b).alloc c).heap.size = w.heap.size + 3 := by simp
  have s4 : ((((w.alloc a).alloc b).alloc c).alloc d).heap.size = w.heap.size + 4 := by simp
  refine ⟨?_, ?_, ?_, ?_, s4⟩
  · rw [Below.heap_alloc _ _ _ (by omega), Below.heap_alloc _ _ _ (by omega), Below.heap_alloc _ _ _ (by omega)]; exact heap_alloc_new _ _
  · rw [Below.heap_alloc _ _ _ (by omega), Below.heap_alloc _ _ _ (by omega)]
    have := heap_alloc_new (w.alloc a) b
    rwa [s1] at this
  · rw [Below.heap_alloc _ _ _ (by omega)]
    have := heap_alloc_new ((w.alloc a).alloc b) c
    rwa [s2] at this
  · have := heap_alloc_new (((w.alloc a).alloc b).alloc c) d
    rwa [s3] at this
theorem packByte_nil (j : Nat) : packByte [] j = 0 := numOf_zeros _ (fun q => by
  by_cases h : q < 8
  · rw [byteAt_getD _ _ _ h]; rfl
  · exact getD_past _ _ (by rw [byteAt_length]; omega))
theorem made_pack (M : Nat) : (madeCells #[.int .u8 0] M).toList = nums .u8 (pack [] M) := by
  unfold nums pack
  rw [madeCells, List.map_map, Array.toList_map, Array.toList_range]
  apply List.map_congr_left
  intro i _
  simp [packByte_nil, Nat.mod_one]

set_option maxRecDepth 100000 in
set_option maxHeartbeats 4000000 in
theorem Put_ok (A : Option Addr) (n c : Nat) (xs : List Num) (w : World) (hR : ReadsNums w A n xs) (hn : n ≤ 1048576) (hwf : ∀ j, j < n → (xs.getD j zeroNum).wf) (hok : allOk xs) (hbig : (allBits xs).length ≤ 524288) :
    Calls Try.prog 7 #[.slice A n c] w fun e w' => ∃ v, e = .returned (.tuple #[v, .int .i64 0]) ∧ w'.ownsRow w.heap.size 5 1 v (((allBits xs).length + 7) / 8) (nums .u8 (pack (allBits xs) (((allBits xs).length + 7) / 8))) ∧ Below w.heap.size w w' := by
  have HR : Aside (ReadsNums w A n xs) := hR
  have HL : Aside (xs.length = n) := hR.1
  have HW : Aside (∀ j, j < n → (xs.getD j zeroNum).wf) := hwf
  have HO : Aside (allOk xs) := hok
  have HBIG : Aside ((allBits xs).length ≤ 524288) := hbig
  clear hR hwf hok hbig
  refine (callsIn_wide (n := 3)).1 ?_
  refine callsIn_of_wp_marks Try.func7 rfl trivial ?_ rfl
  simp only [Try.ntmps7, List.size_toArray, List.length_cons, List.length_nil, Nat.reduceAdd, Nat.reduceSub, Array.replicate_succ, Array.replicate_zero, List.push_toArray, List.append_toArray, List.nil_append, List.cons_append]
  gi_wp2
  gi_loopw [4, 12] (fun s i' wr => ∃ (k m : Nat), k ≤ n ∧ i' = .int .i64 k ∧ s = .int .i64 m ∧ Aside (m = (allBits (xs.take k)).length) ∧ Below w.heap.size w wr) (fun _ i' _ => n - (intOf i').toNat)
  case atStart => exact ⟨0, 0, Nat.zero_le _, rfl, rfl, rfl, Below.refl _ _⟩
  case round =>
    obtain ⟨k, m, hk, rfl, rfl, hm, hB⟩ := hrel
    have hsz := hB.size
    have hmb : m ≤ 128 * k := by rw [hm.out]; exact len_bound xs HO.out k (by rw [HL.out]; exact hk)
    by_cases hlt : k < n
    · obtain ⟨b, off, hA, hbs, hcells⟩ := (HR.out.below hB).2.2 (by omega)
      subst hA
      obtain ⟨q0, q1, q2⟩ := hcells k (by omega)
      rw [← Nat.add_assoc] at q1 q2
      obtain ⟨x, hx⟩ : ∃ x, x = xs.getD k zeroNum := ⟨_, rfl⟩
      rw [← hx] at q0 q1 q2
      have hwf := HW.out k (by omega)
      rw [← hx] at hwf
      have hk0 : (0 : Int) ≤ (k : Int) := by omega
      have hk1 : (k : Int) < (n : Int) := by omega
      clear hcells
      have hok := HO.out k (by rw [HL.out]; exact hlt)
      rw [← hx] at hok
      have HC : Aside (∀ V, Calls Try.prog 16 #[x.v] V fun e w' => e = .returned (.bool true) ∧ Below V.heap.size V w') := fun V => check_good x hwf hok V
      have hW1 := hok.1
      have hW2 := hok.2.1
      obtain ⟨d, hd⟩ : ∃ d : Nat, x.W = (d : Int) := ⟨x.W.toNat, by omega⟩
      have HS : Aside ((allBits (xs.take (k + 1))).length = (allBits (xs.take k)).length + d) := by
        show _ = _
        rw [allBits_len_succ _ _ (by rw [HL.out]; exact hlt), ← hx, hd]
        rfl
      clear hx hwf hok
      obtain ⟨W, hi', lo⟩ := x
      unfold Num.v at HC
      simp only at q0 q1 q2 HC hW1 hW2 hd
      subst hd
      gi_wp2_with fail
      refine ⟨trivial, ?_⟩
      refine CallsIn.mono (callsIn_wide.2 (HC.out _)) ?_
      rintro e w5 ⟨rfl, hb5⟩
      have h6 := (hb5.block wr.heap.size (by simp)).trans (heap_alloc_new wr (.cells #[.int .i64 (d : Int), .int .u64 hi', .int .u64 lo] 33))
      have p0 := cellOf h6 0
      simp only [List.getElem?_toArray, List.getElem?_cons_zero] at p0
      clear h6
      have hadd : (m : Int) + (d : Int) ≤ 9223372036854775807 := by omega
      have hadd0 : (0 : Int) ≤ (m : Int) + (d : Int) := by omega
      gi_wp2
      go_roundw
      case rel => exact ⟨k + 1, m + d, by omega, by go_num, by go_num, by show _ = _; rw [HS.out, ← hm.out], (hB.alloc hsz _).trans (hb5.mono (by simp; omega))⟩
      case measure => simp [intOf]; omega
    · obtain rfl : k = n := by omega
      have hm' : m = (allBits xs).length := by
        rw [hm.out, show xs.take k = xs from List.take_of_length_le (by rw [HL.out]; exact Nat.le_refl _)]
      have hmm : m ≤ 524288 := by rw [hm']; exact HBIG.out
      have hd : decide (524288 < (m : Int)) = false := decide_eq_false (by omega)
      obtain ⟨M, hM⟩ : ∃ M, M = (m + 7) / 8 := ⟨_, rfl⟩
      have s1 : ((m : Int) + 7) / 8 = (M : Int) := by omega
      have hmk := makeFull_u8 M (by omega)
      have HM : Aside (M = (m + 7) / 8 ∧ m = (allBits xs).length) := ⟨hM, hm'⟩
      clear hM hm'
      gi_wp2_with fail
      refine ⟨trivial, ?_⟩
      refine CallsIn.mono (callsIn_wide.2 (all_any _ _ _ _)) ?_
      rintro e w5 ⟨rfl, rfl⟩
      generalize hg : wr.heap.size = g at *
      have HG : Aside (w.heap.size ≤ g) := hsz
      have HRB : Aside (0 < k → ∀ ad, A = some ad → ad.block < w.heap.size) := by
        intro hk0 ad had
        obtain ⟨b, off, h1, h2, _⟩ := HR.out.2.2 hk0
        rw [had] at h1
        injection h1 with h1
        rw [h1]
        exact h2
      have hA4 := alloc4 wr (.cells (madeCells #[.int .u8 0] M) 5) (.cells #[.slice (some ⟨g, 0, none⟩) M M] 24) (.cells #[.int .i64 0] 3) (.cells #[.slice A k c] 22)
      rw [hg] at hA4
      have hVB : Below w.heap.size w ((((wr.alloc (.cells (madeCells #[.int .u8 0] M) 5)).alloc (.cells #[.slice (some ⟨g, 0, none⟩) M M] 24)).alloc (.cells #[.int .i64 0] 3)).alloc (.cells #[.slice A k c] 22)) :=
        (((hB.alloc (by omega) _).alloc (by simp; omega) _).alloc (by simp; omega) _).alloc (by simp; omega) _
      have hVc : ((((wr.alloc (.cells (madeCells #[.int .u8 0] M) 5)).alloc (.cells #[.slice (some ⟨g, 0, none⟩) M M] 24)).alloc (.cells #[.int .i64 0] 3)).alloc (.cells #[.slice A k c] 22)).cell? ⟨g + 1 + 1 + 1, 0, none⟩ = some (.slice A k c) := cellOf hA4.2.2.2.1 0
      have hVs := hA4.2.2.2.2
      have hV0 : PutAt w.heap.size g M [] ((((wr.alloc (.cells (madeCells #[.int .u8 0] M) 5)).alloc (.cells #[.slice (some ⟨g, 0, none⟩) M M] 24)).alloc (.cells #[.int .i64 0] 3)).alloc (.cells #[.slice A k c] 22)) :=
        ⟨⟨_, by simp [size_madeCells], made_pack M, hA4.1⟩, hA4.2.1, hA4.2.2.1⟩
      clear hA4
      gi_wp2_with fail
      generalize ((((wr.alloc (.cells (madeCells #[.int .u8 0] M) 5)).alloc (.cells #[.slice (some ⟨g, 0, none⟩) M M] 24)).alloc (.cells #[.int .i64 0] 3)).alloc (.cells #[.slice A k c] 22)) = V at *
      refine range_own rfl (by decide) (gf := 26) (lb := #[.pointer (some ⟨g + 1 + 1 + 1, 0, none⟩)]) rfl trivial (enters_of Try.func26 (by kernel_rfl) rfl)
        (all_stops (fun b => b = g ∨ b = g + 1 + 1) (g + 1 + 1 + 1) A k c xs V ?hF (by omega) (by intro b hb; omega) (by omega) (fun j hj => ⟨HW.out j hj, HO.out j (by rw [HL.out]; exact hj)⟩) hVc (HR.out.below hVB)) KeepC.trans (keepC_b _ _) (Below.refl _ _) (fun _ => rfl)
        (fun pre W => PutAt w.heap.size g M pre W ∧ Below w.heap.size w W) (fun _ _ _ => False)
        (OwnFrom.and ((PutAt.own w.heap.size g M).from _) (ownFrom_below (Nat.le_refl _) (by omega))) (fun _ _ _ _ _ hs _ _ => hs) ⟨hV0, hVB⟩ ?round ?done ?stop
      case hF =>
        intro hk0 ad had hf
        have h1 := HRB.out hk0 ad had
        have h2 := HG.out
        rcases hf with hf | hf <;> omega
      case round =>
        intro x
        apply Exists.intro
        refine ⟨?_, ?_⟩
        · intro l W K hK
          gi_wp2
          exact hK
        · rintro l pre W ⟨⟨⟨cs, hc1, hc2, hc3⟩, hb7, hb8⟩, hBW⟩ hlen
          obtain ⟨a, ha⟩ : ∃ a, a = pre.length := ⟨_, rfl⟩
          have hMa : a < 8 * M := by have := HM.out; omega
          have c7 := hb7.cell
          have c8 := hb8.cell
          have f8 := hb8.frozen
          rw [← ha] at c8
          obtain ⟨j, hj⟩ : ∃ j, j = a / 8 := ⟨_, rfl⟩
          obtain ⟨r, hr⟩ : ∃ r, r = a % 8 := ⟨_, rfl⟩
          have hjM : j < M := by omega
          have hr8 : r < 8 := by omega
          have ha6 : a ≤ 524288 := by have := HM.out; omega
          obtain ⟨q, hq⟩ : ∃ q : Nat, q = packByte pre j := ⟨_, rfl⟩
          have hq8 : q < 256 := by rw [hq]; exact packByte_lt _ _
          have cg : W.cell? ⟨g, j, none⟩ = some (.int .u8 (q : Int)) := by
            rw [cellOf hc3 j, ← Array.getElem?_toList, hc2, nums, List.getElem?_map, hq]
            have := pack_getD pre M j hjM
            rw [List.getD_eq_getElem?_getD, List.getElem?_eq_getElem (by rw [pack_length]; exact hjM)] at this
            simp only [Option.getD_some] at this
            rw [List.getElem?_eq_getElem (by rw [pack_length]; exact hjM), this]
            rfl
          have fg := frozenOf hc3 j
          have HI : Aside (PutAt w.heap.size g M pre W ∧ Below w.heap.size w W ∧ a = pre.length ∧ j = a / 8 ∧ r = a % 8 ∧ q = packByte pre j) := ⟨⟨⟨cs, hc1, hc2, hc3⟩, hb7, hb8⟩, hBW, ha, hj, hr, hq⟩
          have s1 : (a : Int) / 8 = (j : Int) := by omega
          have s2 : (a : Int).tdiv 8 = (j : Int) := by rw [Int.tdiv_eq_ediv_of_nonneg (by omega)]; exact s1
          have s3 : (a : Int) % 8 = (r : Int) := by omega
          have s4 : (a : Int).tmod 8 = (r : Int) := by rw [Int.tmod_eq_emod_of_nonneg (by omega)]; exact s3
          have s5 : (0 : Int) ≤ (j : Int) := by omega
          have s6 : (j : Int) < (M : Int) := by omega
          have s7 : IntKind.i64.wrap (j : Int) = (j : Int) := by rw [IntKind.wrap_i64]; omega
          have s8 : IntKind.i64.wrap (r : Int) = (r : Int) := by rw [IntKind.wrap_i64]; omega
          have s9 : (0 : Int) ≤ (r : Int) := by omega
          clear ha hj hr hq hc1 hc2 hc3 hb7 hb8 hBW
          cases x with
          | false =>
            gi_wp2
            have h := put_false HG.out HI.out.1 HI.out.2.1 HI.out.2.2.1 0
            exact ⟨h.1, h.2.1, h.2.2.1, h.2.2.2⟩
          | true =>
            gi_wp2
            refine wpIn_region_still_tail 10 (by kernel_rfl) (by kernel_rfl) (by kernel_rfl) (fun ⟨_, _, h⟩ => h) ?_
            simp only [List.take_succ_cons, List.take_zero, List.drop_succ_cons, List.drop_zero]
            repeat still_step
            try refine wpStill_nil ?_
            change wpList _ _ _ _ _ W.drew
            go_wp2
            gi_wp2
            have h := put_true HG.out HI.out.1 HI.out.2.1 HI.out.2.2.1 HI.out.2.2.2.1 HI.out.2.2.2.2.1 HI.out.2.2.2.2.2 hjM
            exact ⟨h.1, h.2.1, h.2.2.1, h.2.2.2⟩
      case done =>
        rintro D ys W hD rfl ⟨⟨⟨cs, hc1, hc2, hc3⟩, hb7, hb8⟩, hBW⟩ hK
        have c7 := hb7.cell
        gi_wp2
        refine ⟨by simp, .inl ⟨_, _, rfl, run_takeDeferred hK, ?_⟩⟩
        refine ⟨_, results_tmp2 rfl _ _ _, ?_⟩
        have hrow : W.ownsRow w.heap.size 5 1 (.slice (some ⟨g, 0, none⟩) M M) M (nums .u8 (pack (allBits xs) M)) :=
          ⟨by simp [nums, pack_length], .inr ⟨g, M, cs, rfl, HG.out, hc3, Nat.le_refl _, by unfold maxLen; have := HM.out; omega, by rw [hc1]; omega, by rw [Nat.mul_one, hc2]; exact List.take_of_length_le (by simp [nums, pack_length])⟩⟩
        refine ⟨.slice (some ⟨g, 0, none⟩) M M, rfl, ?_, hBW.trans (belowK_b (w := w) (Nat.le_refl _) W D _ _ (by have := HG.out; omega) hK rfl rfl)⟩
        have e : ((allBits xs).length + 7) / 8 = M := by have := HM.out; omega
        rw [e]
        exact ownsRow_putObj hrow _ hK rfl
      case stop =>
        rintro D c pre W hD hpre h _
        exact h.elim
end Go.Proofs.Ytipeeacplhgihaa
