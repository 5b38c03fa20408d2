/-
  slices.Repeat of one number.
-/
import Derived.Test.YtanimonhnngfkaaMay3
import Derived.Test.YtanimonhnngfkaaCopyCells
import Derived.Laws.BitsLemmas
import Derived.BigRegion
set_option linter.unusedVariables false
set_option linter.unusedSimpArgs false
namespace Go.Proofs.Ytanimonhnngfkaa
open Go.RowKit

theorem mul64_one (n : Nat) (hn : n ≤ 1048576) (w : World) : Calls Try.prog 45 #[.int .u64 1, .int .u64 (n : Int)] w fun e w' => e = .returned (.tuple #[.int .u64 0, .int .u64 (n : Int)]) ∧ w = w' := by
  have e1 : bits .and .u64 (n : Int) 4294967295 = (n : Int) := by
    have h := bits_mask .u64 64 (by decide) wraps_u64 32 (by decide) (n : Int) (by omega) (by omega)
    rw [show (2 : Int) ^ 32 - 1 = 4294967295 by decide, show (2 : Int) ^ 32 = 4294967296 by decide] at h
    rw [h]
    omega
  have e2 : (n : Int) / 4294967296 = 0 := by omega
  have e3 : (0 : Int) ≤ (n : Int) := by omega
  have e5 : bits .and .u64 1 4294967295 = 1 := by decide
  have e6 : IntKind.u64.wrap (n : Int) = (n : Int) := by rw [IntKind.wrap_u64]; omega
  have e7 : bits .and .u64 0 4294967295 = 0 := by decide
  have e8 : IntKind.u64.wrap 0 = 0 := by decide
  have e4 : (n : Int) ≤ 1048576 := by omega
  go_enter Try.func45, Try.ntmps45
  go_wp2_with fail
  go_ret2
  exact ⟨rfl, rfl⟩
theorem mul_one (n : Nat) (hn : n ≤ 1048576) (w : World) : Calls Try.prog 32 #[.int .u64 1, .int .u64 (n : Int)] w fun e w' => e = .returned (.tuple #[.int .u64 0, .int .u64 (n : Int)]) ∧ w = w' := by
  go_enter Try.func32, Try.ntmps32
  go_wp2_with fail
  refine (mul64_one n hn _).mono ?_
  rintro e w' ⟨rfl, rfl⟩
  go_wp2
  go_ret2
  exact ⟨rfl, rfl⟩

theorem makeNums (m : Nat) (h : m ≤ 1048576) : ∀ W : World, (Instr.makeSlice 30 (.int .i64 (m : Int)) (.int .i64 (m : Int))).run Try.prog W = .ok (.slice (some ⟨W.heap.size, 0, none⟩) m m) (W.alloc (.cells (madeCells #[.int .i64 0, .int .u64 0, .int .u64 0] (m * 3)) 45)) := by
  intro W
  obtain ⟨i, hi, hzz⟩ := Option.map_eq_some_iff.1 infoBits
  simp only [Prod.mk.injEq] at hzz
  obtain ⟨hz, hs, hb⟩ := hzz
  have := run_make (P := Try.prog) W 30 45 i _ Try.underlying30 hi hz .i64 .i64 m m (by omega) (by omega) (by rw [hb]; omega) (by omega)
  rw [hs] at this
  simpa [Value.cells] using this
theorem numsV_take (l : List Num) (k : Nat) : (numsV l).take (k * 3) = numsV (l.take k) := by
  induction l generalizing k with
  | nil => simp [numsV]
  | cons x l ih =>
    have e : ∀ l : List Num, numsV (x :: l) = .int .i64 x.W :: .int .u64 x.Hi :: .int .u64 x.Lo :: numsV l := fun l => by unfold numsV; rw [List.flatMap_cons]; rfl
    cases k with
    | zero => simp [numsV]
    | succ k => rw [e, List.take_succ_cons, e, show (k + 1) * 3 = k * 3 + 1 + 1 + 1 by omega, List.take_succ_cons, List.take_succ_cons, List.take_succ_cons, ih]
theorem numsV_drop (l : List Num) (k : Nat) : (numsV l).drop (k * 3) = numsV (l.drop k) := by
  induction l generalizing k with
  | nil => simp [numsV]
  | cons x l ih =>
    have e : ∀ l : List Num, numsV (x :: l) = .int .i64 x.W :: .int .u64 x.Hi :: .int .u64 x.Lo :: numsV l := fun l => by unfold numsV; rw [List.flatMap_cons]; rfl
    cases k with
    | zero => simp
    | succ k => rw [e, List.drop_succ_cons, show (k + 1) * 3 = k * 3 + 1 + 1 + 1 by omega, List.drop_succ_cons, List.drop_succ_cons, List.drop_succ_cons, ih]
theorem numsV_one_cell (l : List Num) : ∀ v ∈ numsV l, v.oneCell' = true := by
  intro v hv
  unfold numsV at hv
  obtain ⟨x, _, hx⟩ := List.mem_flatMap.1 hv
  simp [Num.cells] at hx
  rcases hx with rfl | rfl | rfl <;> rfl
theorem madeNums (m : Nat) : (madeCells #[.int .i64 0, .int .u64 0, .int .u64 0] (m * 3)).toList = numsV (List.replicate m zeroNum) := by
  apply List.ext_getElem
  · rw [numsV_length, List.length_replicate]; simp [size_madeCells]
  · intro i h1 h2
    have hi : i < m * 3 := by simpa [size_madeCells] using h1
    have hj : i / 3 < (List.replicate m zeroNum).length := by rw [List.length_replicate]; omega
    obtain ⟨c0, c1, c2⟩ := numsV_get (List.replicate m zeroNum) (i / 3) hj
    have hg : (List.replicate m zeroNum).getD (i / 3) zeroNum = zeroNum := by
      rw [List.getD_eq_getElem?_getD, List.getElem?_eq_getElem hj]; simp
    rw [hg] at c0 c1 c2
    simp only [madeCells, Array.toList_map, Array.toList_range, List.getElem_map, List.getElem_range]
    have e : i % 3 = 0 ∨ i % 3 = 1 ∨ i % 3 = 2 := by omega
    rcases e with e | e | e
    · have : i = i / 3 * 3 := by omega
      rw [← this, List.getElem?_eq_getElem h2] at c0
      injection c0 with c0
      rw [c0]
      simp [e, zeroNum]
    · have : i = i / 3 * 3 + 1 := by omega
      rw [← this, List.getElem?_eq_getElem h2] at c1
      injection c1 with c1
      rw [c1]
      simp [e, zeroNum]
    · have : i = i / 3 * 3 + 2 := by omega
      rw [← this, List.getElem?_eq_getElem h2] at c2
      injection c2 with c2
      rw [c2]
      simp [e, zeroNum]
/-- copy, as a run: what is left is a world of which the row is known. -/
theorem copy_nums (w : World) (B : Nat) (w0 : World) (dT sT ty : TypeId) (m g o dLen dCap : Nat) (a : Addr) (sLen sCap : Nat) (cur : List Num) (cs : List Num)
    (hu : Try.prog.underlying dT = some (.slice 45)) (hg : w.heap[g]? = some (.cells (numsV cur).toArray 45 (0, 0))) (hm : m = Nat.min sLen dLen) (hn : cs.length = m)
    (hsrc : ∀ j v, (numsV cs)[j]? = some v → w.cell? (a.add j) = some v) (hfit : o + m * 3 ≤ cur.length * 3) (hb : Below B w0 w) (hBg : B ≤ g) :
    ∃ w', (Builtin.copy_ #[dT, sT] ty #[.slice (some ⟨g, o, none⟩) dLen dCap, .slice (some a) sLen sCap]).run Try.prog w = .ok (.int .i64 (m : Int)) w' ∧
      w'.heap[g]? = some (.cells ((numsV cur).take o ++ numsV cs ++ (numsV cur).drop (o + (numsV cs).length)).toArray 45 (0, 0)) ∧ Below B w0 w' := by
  have hs : (Try.prog.info? 45).map (·.size) = some 3 := by
    obtain ⟨i, hi, hzz⟩ := Option.map_eq_some_iff.1 infoBits
    simp only [Prod.mk.injEq] at hzz
    rw [hi, ← hzz.2.1]; rfl
  have hl : (numsV cs).length = m * 3 := by rw [numsV_length, hn]
  have hrun := run_copy_cells (P := Try.prog) w dT sT ty 45 3 m g o dLen dCap a sLen sCap (numsV cur).toArray 45 (numsV cs) hu hs hg hm hl hsrc (by rw [hl]; simp [numsV_length]; exact hfit) (numsV_one_cell cs)
  exact ⟨_, hrun, setRow_heap w g _ _ _ _ hg, below_setRow hb hBg _⟩
theorem nums_src {w : World} {A : Option Addr} {n : Nat} {xs : List Num} (h : ReadsNums w A n xs) (hn : 0 < n) : ∃ b off, A = some ⟨b, off, none⟩ ∧ ∀ j v, (numsV xs)[j]? = some v → w.cell? ((⟨b, off, none⟩ : Addr).add j) = some v := by
  obtain ⟨b, off, h1, h2, h3⟩ := h.2.2 hn
  refine ⟨b, off, h1, fun j v hv => ?_⟩
  have hj : j < xs.length * 3 := by
    have := (List.getElem?_eq_some_iff.1 hv).1
    rwa [numsV_length] at this
  have hjn : j / 3 < n := by rw [← h.1]; omega
  obtain ⟨c0, c1, c2⟩ := h3 (j / 3) hjn
  obtain ⟨d0, d1, d2⟩ := numsV_get xs (j / 3) (by rw [h.1]; exact hjn)
  rw [Addr.add_lit]
  have e : j % 3 = 0 ∨ j % 3 = 1 ∨ j % 3 = 2 := by omega
  rcases e with e | e | e
  · have h4 : j = j / 3 * 3 := by omega
    rw [← h4] at d0 c0
    rw [c0]; rw [hv] at d0; injection d0 with d0; rw [d0]
  · have h4 : j = j / 3 * 3 + 1 := by omega
    rw [← h4] at d1 c1
    rw [c1]; rw [hv] at d1; injection d1 with d1; rw [d1]
  · have h4 : j = j / 3 * 3 + 2 := by omega
    rw [← h4] at d2 c2
    rw [c2]; rw [hv] at d2; injection d2 with d2; rw [d2]

/-- What lies in the row when so many are copied. -/
def repL (x : Num) (n k : Nat) : List Num := List.replicate k x ++ List.replicate (n - k) zeroNum
theorem repL_length (x : Num) (n k : Nat) (h : k ≤ n) : (repL x n k).length = n := by simp [repL]; omega
theorem repL_next (x : Num) (n k j : Nat) (h : k + j ≤ n) : (numsV (repL x n k)).take (k * 3) ++ numsV (List.replicate j x) ++ (numsV (repL x n k)).drop (k * 3 + (numsV (List.replicate j x)).length) = numsV (repL x n (k + j)) := by
  rw [numsV_length, List.length_replicate, ← Nat.add_mul, numsV_take, numsV_drop, ← numsV_append, ← numsV_append]
  congr 1
  unfold repL
  rw [List.take_append_of_le_length (by simp), List.take_of_length_le (by simp), List.drop_append, List.length_replicate]
  simp only [List.drop_replicate, List.replicate_append_replicate]
  rw [show k - (k + j) = 0 by omega, List.replicate_zero, List.nil_append, show n - k - (k + j - k) = n - (k + j) by omega]

set_option maxRecDepth 100000 in
set_option maxHeartbeats 2000000 in
theorem Repeat_any (x : Num) (A : Option Addr) (c n : Nat) (h1 : 1 ≤ n) (h2 : n ≤ 4096) (w : World) (hR : ReadsNums w A 1 [x]) :
    Calls Try.prog 19 #[.slice A 1 c, .int .i64 (n : Int)] w fun e w' => ∃ g, e = .returned (.slice (some ⟨g, 0, none⟩) n n) ∧ w.heap.size ≤ g ∧ w'.heap[g]? = some (.cells (numsV (List.replicate n x)).toArray 45 (0, 0)) ∧ Below w.heap.size w w' := by
  have HR : Aside (ReadsNums w A 1 [x]) := hR
  have hmk := makeNums n (by omega)
  have hn0 : (0 : Int) ≤ (n : Int) := by omega
  have hn4 : (n : Int) ≤ 4096 := by omega
  have hwr : IntKind.u64.wrap (n : Int) = (n : Int) := by rw [IntKind.wrap_u64]; omega
  have hd1 : decide ((n : Int) < 0) = false := decide_eq_false (by omega)
  clear hR
  go_enter Try.func19, Try.ntmps19
  go_wp2_with fail
  refine (mul_one n (by omega) _).mono ?_
  rintro e w' ⟨rfl, rfl⟩
  have hV0 : (w.alloc (.cells (madeCells #[.int .i64 0, .int .u64 0, .int .u64 0] (n * 3)) 45)).heap[w.heap.size]? = some (.cells (numsV (repL x n 0)).toArray 45 (0, 0)) := by
    rw [heap_alloc_new]
    have e : madeCells #[.int .i64 0, .int .u64 0, .int .u64 0] (n * 3) = (numsV (repL x n 0)).toArray := by
      rw [← Array.toList_inj, madeNums]
      simp [repL]
    rw [e]
  have hB0 : Below w.heap.size w (w.alloc (.cells (madeCells #[.int .i64 0, .int .u64 0, .int .u64 0] (n * 3)) 45)) := (Below.refl _ _).alloc (Nat.le_refl _) _
  obtain ⟨b, off, hA, hsrc⟩ := nums_src (HR.out.below hB0) (by decide)
  subst hA
  obtain ⟨W1, hrun, hg1, hB1⟩ := copy_nums _ w.heap.size w 30 30 3 1 w.heap.size 0 n n ⟨b, off, none⟩ 1 c (repL x n 0) [x] Try.underlying30 hV0 (by show 1 = min 1 n; omega) rfl hsrc (by rw [repL_length x n 0 (by omega)]; omega) hB0 (Nat.le_refl _)
  have hg1' : W1.heap[w.heap.size]? = some (.cells (numsV (repL x n 1)).toArray 45 (0, 0)) := by
    rw [hg1]
    have := repL_next x n 0 1 (by omega)
    rw [Nat.zero_mul, Nat.zero_add] at this
    rw [show List.replicate 1 x = [x] from rfl] at this
    rw [Nat.zero_add, this]
  clear hV0 hB0 hsrc hg1
  have hRUN : Aside _ := hrun
  generalize hgg : w.heap.size = g at *
  go_wp2
  go_loopw [8] (fun i wr => ∃ k : Nat, 1 ≤ k ∧ k ≤ n ∧ i = .int .i64 k ∧ Aside (wr.heap[g]? = some (.cells (numsV (repL x n k)).toArray 45 (0, 0))) ∧ Below g w wr) (fun i _ => n - (intOf i).toNat)
  case atStart => exact ⟨1, by omega, h1, rfl, hg1', hB1⟩
  case round =>
    obtain ⟨k, hk1, hk, rfl, hG, hB⟩ := hrel
    clear hg1' hB1 hrun hmk
    by_cases hlt : k < n
    · obtain ⟨j, hj⟩ : ∃ j, j = Nat.min k (n - k) := ⟨_, rfl⟩
      have hj1 : 1 ≤ j ∧ k + j ≤ n ∧ j ≤ k := by rw [hj]; simp only [Nat.min_def]; split <;> omega
      have hsl1 : ∀ W : World, (Instr.slice 30 (.slice (some ⟨g, 0, none⟩) n n) (some (.int .i64 (k : Int))) none none).run Try.prog W = .ok (.slice (some ⟨g, k * 3, none⟩) (n - k) (n - k)) W := by
        intro W
        rw [run_slice_l (P := Try.prog) W 30 (some ⟨g, 0, none⟩) n n (by kernel_rfl) .i64 (k : Int) (by omega) (by omega)]
        have hsz : (sizeOf (Try.prog.elem 30)).run Try.prog W = .ok 3 W := by kernel_rfl
        rw [hsz]
        have hne : ¬ n = k := by omega
        simp [sliced, Result.andThen, hne, Addr.add_lit]
      have hsl2 : ∀ W : World, (Instr.slice 30 (.slice (some ⟨g, 0, none⟩) n n) none (some (.int .i64 (k : Int))) none).run Try.prog W = .ok (.slice (some ⟨g, 0, none⟩) k n) W := by
        intro W
        rw [run_slice_h (P := Try.prog) W 30 (some ⟨g, 0, none⟩) n n (by kernel_rfl) .i64 (k : Int) (by omega) (by omega)]
        have hsz : (sizeOf (Try.prog.elem 30)).run Try.prog W = .ok 3 W := by kernel_rfl
        rw [hsz]
        simp [sliced, Result.andThen, Addr.add_lit]
      have hsrc2 : ∀ i v, (numsV (List.replicate j x))[i]? = some v → wr.drew.cell? ((⟨g, 0, none⟩ : Addr).add i) = some v := by
        intro i v hv
        have hi := (List.getElem?_eq_some_iff.1 hv).1
        rw [numsV_length, List.length_replicate] at hi
        rw [Addr.add_lit, Nat.zero_add, show wr.drew.cell? ⟨g, i, none⟩ = wr.cell? ⟨g, i, none⟩ from rfl, cellOf hG.out i]
        have e : repL x n k = List.replicate j x ++ (List.replicate (k - j) x ++ List.replicate (n - k) zeroNum) := by
          unfold repL
          rw [← List.append_assoc, List.replicate_append_replicate, show j + (k - j) = k by omega]
        rw [e, numsV_append, List.getElem?_toArray, List.getElem?_append_left (by rw [numsV_length, List.length_replicate]; exact hi)]
        exact hv
      obtain ⟨W2, hrun2, hg2, hB2⟩ := copy_nums wr.drew g w 30 30 3 j g (k * 3) (n - k) (n - k) ⟨g, 0, none⟩ k n (repL x n k) (List.replicate j x) Try.underlying30 hG.out hj (by simp) hsrc2 (by rw [repL_length x n k hk]; omega) hB.drew (Nat.le_refl _)
      rw [repL_next x n k j hj1.2.1] at hg2
      have HG2 : Aside (W2.heap[g]? = some (.cells (numsV (repL x n (k + j))).toArray 45 (0, 0))) := hg2
      have hkj : (k : Int) + (j : Int) ≤ 4096 := by omega
      have hkn : (k : Int) < (n : Int) := by omega
      have hk0 : (0 : Int) ≤ (k : Int) := by omega
      clear hsrc2 hg2 hG hj
      go_wp2_with fail
      go_region
      go_wp2
      go_roundw
      case rel => exact ⟨k + j, by omega, hj1.2.1, by go_num, HG2.out, hB2⟩
      case measure => (simp [intOf]; omega)
    · obtain rfl : k = n := by omega
      go_wp2
      go_ret
      have e : repL x k k = List.replicate k x := by simp [repL]
      have h := hG.out
      rw [e] at h
      exact ⟨g, rfl, by omega, h, by rw [hgg]; exact hB⟩
end Go.Proofs.Ytanimonhnngfkaa
