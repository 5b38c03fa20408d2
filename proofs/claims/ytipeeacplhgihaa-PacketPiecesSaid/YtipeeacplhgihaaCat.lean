/-
  The contract of bits.Do, of two numbers put together.
-/
import Derived.Test.YtipeeacplhgihaaCatMath
import Derived.Test.YtipeeacplhgihaaCheck
import Derived.WalkSpells
import Derived.WideMake
set_option linter.unusedVariables false
set_option linter.unusedSimpArgs false
namespace Go.Proofs.Ytipeeacplhgihaa
open Go.RowKit PkMath

theorem two_new {w w1 : World} {a b : Obj} (hb : Below ((w.alloc a).alloc b).heap.size ((w.alloc a).alloc b) w1) : w1.heap[w.heap.size + 1]? = some b := by
  have h := heap_alloc_new (w.alloc a) b
  rw [World.size_alloc] at h
  exact (hb.block _ (by simp)).trans h
theorem up_any (v n : Nat) (h1 : 1 ≤ n) (h2 : n ≤ 127) (hv : v * 2 ^ n < 2 ^ 128) (w : World) :
    Calls Try.prog 43 #[.agg #[.int .i64 128, .int .u64 (hiOf v), .int .u64 (loOf v)], .int .u64 (n : Int)] w fun e w' => e = .returned (bitsV 128 (hiOf (v * 2 ^ n)) (loOf (v * 2 ^ n))) ∧ Below w.heap.size w w' := by
  have hvv : v < 2 ^ 128 := Nat.lt_of_le_of_lt (Nat.le_mul_of_pos_right _ (Nat.two_pow_pos n)) hv
  have hb := half_bd (v * 2 ^ n) hv
  have hc := (cut_same (v * 2 ^ n) 128 hv (by decide)).1
  have HB : Aside (((0 ≤ hiOf (v * 2 ^ n) ∧ hiOf (v * 2 ^ n) ≤ 18446744073709551615) ∧ (0 ≤ loOf (v * 2 ^ n) ∧ loOf (v * 2 ^ n) ≤ 18446744073709551615)) ∧ cutHi 128 (hiOf (v * 2 ^ n)) = hiOf (v * 2 ^ n) ∧ cutLo 128 (loOf (v * 2 ^ n)) = loOf (v * 2 ^ n)) := ⟨hb, hc⟩
  clear hb hc
  have HCUT : Aside (∀ hi lo W, hi = hiOf (v * 2 ^ n) → lo = loOf (v * 2 ^ n) → Calls Try.prog 23 #[.int .i64 128, .int .u64 hi, .int .u64 lo] W fun e W' => e = .returned (.agg #[.int .i64 128, .int .u64 (hiOf (v * 2 ^ n)), .int .u64 (loOf (v * 2 ^ n))]) ∧ Below W.heap.size W W') := by
    rintro hi lo W rfl rfl
    refine (cut_any 128 _ _ W (by decide) (by decide) HB.out.1.1 HB.out.1.2).mono ?_
    rintro e W' ⟨he, hb⟩
    rw [HB.out.2.1, HB.out.2.2] at he
    exact ⟨he, hb⟩
  unfold bitsV
  by_cases h64 : 64 ≤ n
  · obtain ⟨k, rfl⟩ : ∃ k, n = k + 64 := ⟨n - 64, by omega⟩
    have hg := up_great v k hv
    have hgd : (64 : Int) ≤ ((k + 64 : Nat) : Int) := by omega
    have s1 : ((k + 64 : Nat) : Int) - 64 = (k : Int) := by omega
    have s2 : (0 : Int) ≤ (k : Int) := by omega
    have s3 : (k : Int) ≤ 63 := by omega
    have HG : Aside (IntKind.u64.wrap (loOf v * 2 ^ k) = hiOf (v * 2 ^ (k + 64)) ∧ loOf (v * 2 ^ (k + 64)) = 0) := hg
    generalize hiOf v = hi at *
    generalize loOf v = lo at *
    clear hg h1 h2 h64 hv hvv
    generalize hnn : ((k + 64 : Nat) : Int) = nn at *
    clear hnn
    go_enter Try.func43, Try.ntmps43
    go_wp2_with fail
    refine Calls.mono (HCUT.out _ _ _ HG.out.1 HG.out.2.symm) ?_
    rintro e w1 ⟨rfl, hb1⟩
    have h5 := two_new hb1
    have c0 := cellOf h5 0
    have c1 := cellOf h5 1
    have c2 := cellOf h5 2
    have f0 := frozenOf h5 0
    have f1 := frozenOf h5 1
    have f2 := frozenOf h5 2
    simp only [List.getElem?_toArray, List.getElem?_cons_zero, List.getElem?_cons_succ] at c0 c1 c2
    have hB2 : Below w.heap.size w w1 := (((Below.refl _ _).alloc (Nat.le_refl _) _).alloc (by simp) _).trans (hb1.mono (by simp; omega))
    have H5 : Aside _ := h5
    clear h5
    go_wp2
    refine bodyPost_ret (results_cell_row rfl _ _ (w.heap.size + 1) 33 _ (0,0) _ rfl (set3 H5.out _ _ _) Try.underlying33 rfl (by kernel_rfl)) rfl ⟨rfl, ?_⟩
    exact ((hB2.setCell (p := ⟨_, _, _⟩) (Nat.le_succ _) _).setCell (p := ⟨_, _, _⟩) (Nat.le_succ _) _).setCell (p := ⟨_, _, _⟩) (Nat.le_succ _) _
  · obtain ⟨m, hm⟩ : ∃ m, n + m = 64 := ⟨64 - n, by omega⟩
    have hg := up_small v n m h1 hm (by omega) hv
    have hgd : (n : Int) < 64 := by omega
    have s1 : (64 : Int) - (n : Int) = (m : Int) := by omega
    have s2 : (0 : Int) ≤ (m : Int) := by omega
    have s3 : (m : Int) ≤ 63 := by omega
    have s4 : (0 : Int) ≤ (n : Int) := by omega
    have HG : Aside (bits .or .u64 (IntKind.u64.wrap (hiOf v * 2 ^ n)) (loOf v / 2 ^ m) = hiOf (v * 2 ^ n) ∧ IntKind.u64.wrap (loOf v * 2 ^ n) = loOf (v * 2 ^ n)) := hg
    generalize hiOf v = hi at *
    generalize loOf v = lo at *
    clear hg h1 h2 h64 hv hvv hm
    go_enter Try.func43, Try.ntmps43
    go_wp2_with fail
    refine Calls.mono (HCUT.out _ _ _ HG.out.1 HG.out.2) ?_
    rintro e w1 ⟨rfl, hb1⟩
    have h5 := two_new hb1
    have c0 := cellOf h5 0
    have c1 := cellOf h5 1
    have c2 := cellOf h5 2
    have f0 := frozenOf h5 0
    have f1 := frozenOf h5 1
    have f2 := frozenOf h5 2
    simp only [List.getElem?_toArray, List.getElem?_cons_zero, List.getElem?_cons_succ] at c0 c1 c2
    have hB2 : Below w.heap.size w w1 := (((Below.refl _ _).alloc (Nat.le_refl _) _).alloc (by simp) _).trans (hb1.mono (by simp; omega))
    have H5 : Aside _ := h5
    clear h5
    go_wp2
    refine bodyPost_ret (results_cell_row rfl _ _ (w.heap.size + 1) 33 _ (0,0) _ rfl (set3 H5.out _ _ _) Try.underlying33 rfl (by kernel_rfl)) rfl ⟨rfl, ?_⟩
    exact ((hB2.setCell (p := ⟨_, _, _⟩) (Nat.le_succ _) _).setCell (p := ⟨_, _, _⟩) (Nat.le_succ _) _).setCell (p := ⟨_, _, _⟩) (Nat.le_succ _) _

theorem three_new {w w1 : World} {a b c : Obj} (hb : Below (((w.alloc a).alloc b).alloc c).heap.size (((w.alloc a).alloc b).alloc c) w1) : w1.heap[w.heap.size]? = some a ∧ w1.heap[w.heap.size + 1]? = some b ∧ w1.heap[w.heap.size + 1 + 1]? = some c := by
  have s1 : (w.alloc a).heap.size = w.heap.size + 1 := by simp
  have s2 : ((w.alloc a).alloc b).heap.size = w.heap.size + 1 + 1 := by simp
  refine ⟨?_, ?_, ?_⟩
  · refine (hb.block _ (by simp; omega)).trans ?_
    rw [Below.heap_alloc _ _ _ (by omega), Below.heap_alloc _ _ _ (by omega)]
    exact heap_alloc_new _ _
  · refine (hb.block _ (by simp)).trans ?_
    rw [Below.heap_alloc _ _ _ (by omega)]
    have h := heap_alloc_new (w.alloc a) b
    rwa [s1] at h
  · refine (hb.block _ (by simp)).trans ?_
    have h := heap_alloc_new ((w.alloc a).alloc b) c
    rwa [s2] at h
theorem set3_other {w : World} {g k : Nat} {o : Obj} (h : w.heap[k]? = some o) (hne : k ≠ g) (x y z : Value) : (((w.setCell ⟨g, 0, none⟩ x).setCell ⟨g, 1, none⟩ y).setCell ⟨g, 2, none⟩ z).heap[k]? = some o := by
  rw [Below.heap_setCell _ _ _ _ hne, Below.heap_setCell _ _ _ _ hne, Below.heap_setCell _ _ _ _ hne]; exact h

set_option maxRecDepth 100000 in
set_option maxHeartbeats 2000000 in
theorem cat_any (x y : Num) (hx : x.wf) (hy : y.wf) (ox : x.ok) (oy : y.ok) (hw : x.W + y.W ≤ 128) (p : Option Addr) (w : World) :
    Calls Try.prog 46 #[x.v, y.v, .pointer p] w fun e w' => e = .returned (mkNum (x.W.toNat + y.W.toNat) (x.val * 2 ^ y.W.toNat + y.val)).v ∧ Below w.heap.size w w' := by
  have vx := x.val_lt hx ox
  have vy := y.val_lt hy oy
  have ex := Num.halves hx
  have ey := Num.halves hy
  obtain ⟨n, hn⟩ : ∃ n : Nat, x.W = (n : Int) := ⟨x.W.toNat, by have := ox.1; omega⟩
  obtain ⟨m, hm⟩ : ∃ m : Nat, y.W = (m : Int) := ⟨y.W.toNat, by have := oy.1; omega⟩
  have n1 : 1 ≤ n := by have := ox.1; omega
  have m1 : 1 ≤ m := by have := oy.1; omega
  rw [hn, Int.toNat_natCast] at vx
  rw [hm, Int.toNat_natCast] at vy
  rw [hn, hm] at hw
  have hnm : n + m ≤ 128 := by omega
  have hV : x.val * 2 ^ m + y.val < 2 ^ (n + m) := by
    rw [Nat.pow_add]
    have h1 : (x.val + 1) * 2 ^ m ≤ 2 ^ n * 2 ^ m := Nat.mul_le_mul_right _ vx
    rw [Nat.add_mul, Nat.one_mul] at h1
    omega
  have hV128 : x.val * 2 ^ m + y.val < 2 ^ 128 := Nat.lt_of_lt_of_le hV (Nat.pow_le_pow_right (by decide) hnm)
  have hor := or_halves x.val y.val m vy hV128
  have hup := fun W => up_any x.val m m1 (by omega) (by omega) W
  have hcs := cut_same (x.val * 2 ^ m + y.val) (n + m) hV hnm
  have hcast : ((n + m : Nat) : Int) = (n : Int) + (m : Int) := by push_cast; rfl
  have HCUT : Aside (∀ hi lo W, hi = hiOf (x.val * 2 ^ m + y.val) → lo = loOf (x.val * 2 ^ m + y.val) → Calls Try.prog 23 #[.int .i64 ((n : Int) + (m : Int)), .int .u64 hi, .int .u64 lo] W fun e W' => e = .returned (.agg #[.int .i64 ((n : Int) + (m : Int)), .int .u64 (hiOf (x.val * 2 ^ m + y.val)), .int .u64 (loOf (x.val * 2 ^ m + y.val))]) ∧ Below W.heap.size W W') := by
    rintro hi lo W rfl rfl
    have h := cut_any (n + m) _ _ W (by omega) hnm hcs.2.1 hcs.2.2
    rw [hcast] at h
    refine h.mono ?_
    rintro e W' ⟨he, hb⟩
    rw [hcs.1.1, hcs.1.2] at he
    exact ⟨he, hb⟩
  rw [ex.1, ex.2] at hup
  rw [ey.1, ey.2] at hor
  have HUP : Aside _ := hup
  have HOR : Aside _ := hor
  have HEND : Aside ((mkNum (x.W.toNat + y.W.toNat) (x.val * 2 ^ y.W.toNat + y.val)).v = .agg #[.int .i64 ((n : Int) + (m : Int)), .int .u64 (hiOf (x.val * 2 ^ m + y.val)), .int .u64 (loOf (x.val * 2 ^ m + y.val))]) := by
    show _ = _
    rw [hn, hm, Int.toNat_natCast, Int.toNat_natCast]
    unfold mkNum Num.v
    rw [hcast]
  rw [HEND.out]
  unfold Num.v
  rw [hn, hm]
  unfold bitsV at HUP
  clear hup hor hcs hcast HEND hV hV128 vx vy ex ey hx hy ox oy hn hm
  generalize hiOf (x.val * 2 ^ m + y.val) = h2 at *
  generalize loOf (x.val * 2 ^ m + y.val) = l2 at *
  generalize hiOf (x.val * 2 ^ m) = h1 at *
  generalize loOf (x.val * 2 ^ m) = l1 at *
  generalize x.Hi = xh at *
  generalize x.Lo = xl at *
  generalize y.Hi = yh at *
  generalize y.Lo = yl at *
  have hd : (n : Int) + (m : Int) ≤ 128 := hw
  have hm0 : (0 : Int) ≤ (m : Int) := by omega
  have hm1 : (m : Int) ≤ 128 := by omega
  go_enter Try.func46, Try.ntmps46
  go_wp2_with fail
  refine Calls.mono (HUP.out _) ?_
  rintro e w1 ⟨rfl, hb1⟩
  obtain ⟨ha, hb, hc⟩ := three_new hb1
  have a0 := cellOf ha 0
  have a1 := cellOf ha 1
  have a2 := cellOf ha 2
  have fa0 := frozenOf ha 0
  have fa1 := frozenOf ha 1
  have fa2 := frozenOf ha 2
  have b1 := cellOf hb 1
  have b2 := cellOf hb 2
  simp only [List.getElem?_toArray, List.getElem?_cons_zero, List.getElem?_cons_succ] at a0 a1 a2 b1 b2
  have H1 : Aside _ := ha
  have H3 : Aside _ := hc
  have HB1 : Aside (Below w.heap.size w w1) := ((((Below.refl _ _).alloc (Nat.le_refl _) _).alloc (by simp) _).alloc (by simp; omega) _).trans (hb1.mono (by simp; omega))
  clear ha hb hc hb1
  go_wp2_with fail
  refine Calls.mono (HCUT.out _ _ _ HOR.out.1 HOR.out.2) ?_
  rintro e w4 ⟨rfl, hb4⟩
  have h5 := set3_other H3.out (show w.heap.size + 1 + 1 ≠ w.heap.size by omega) (.int .i64 128) (.int .u64 h1) (.int .u64 l1)
  have h6 := (hb4.block _ (Array.getElem?_eq_some_iff.1 h5).1).trans h5
  have c0 := cellOf h6 0
  have c1 := cellOf h6 1
  have c2 := cellOf h6 2
  have f0 := frozenOf h6 0
  have f1 := frozenOf h6 1
  have f2 := frozenOf h6 2
  simp only [List.getElem?_toArray, List.getElem?_cons_zero, List.getElem?_cons_succ] at c0 c1 c2
  have hB3 := ((HB1.out.setCell (p := ⟨w.heap.size, 0, none⟩) (Nat.le_refl _) (.int .i64 128)).setCell (p := ⟨w.heap.size, 1, none⟩) (Nat.le_refl _) (.int .u64 h1)).setCell (p := ⟨w.heap.size, 2, none⟩) (Nat.le_refl _) (.int .u64 l1)
  have HB4 : Aside (Below w.heap.size w w4) := hB3.trans (hb4.mono hB3.size)
  have H6 : Aside _ := h6
  clear h5 h6 hb4 hB3 a0 a1 a2 b1 b2 fa0 fa1 fa2
  go_wp2
  refine bodyPost_ret (results_cell_row rfl _ _ (w.heap.size + 1 + 1) 33 _ (0,0) _ rfl (set3 H6.out _ _ _) Try.underlying33 rfl (by kernel_rfl)) rfl ⟨rfl, ?_⟩
  exact ((HB4.out.setCell (p := ⟨_, _, _⟩) (by show w.heap.size ≤ w.heap.size + 1 + 1; omega) _).setCell (p := ⟨_, _, _⟩) (by show w.heap.size ≤ w.heap.size + 1 + 1; omega) _).setCell (p := ⟨_, _, _⟩) (by show w.heap.size ≤ w.heap.size + 1 + 1; omega) _

/-- A store of a new key into a map that was made last. -/
theorem run_insert_last {P : Program} (w : World) (k : IntKind) (mty kt et : TypeId) (es : Array MapEntry) (clock : Nat) (n : Int) (val : Value) (hm : P.underlying mty = some (.map kt et)) (hk : P.underlying kt = some (.int k))
    (hf : Instr.findNow (.int k) (.int k n) es.toList 0 = some none) :
    (Instr.mapUpdate mty (.map (some w.heap.size)) (.int k n) val).run P (w.alloc (.map es clock)) = .ok () (w.alloc (.map (es.push { key := .int k n, val := val, born := clock }) (clock + 1))) := by
  have hc : (Instr.checkKey false 10000 kt (.int k n)).run P (w.alloc (.map es clock)) = .ok () (w.alloc (.map es clock)) := MapKept.run_checkKey (k := .int k n) hk (by simp [MapKept.IsKey]) false 9999
  have hb : (w.alloc (.map es clock)).heap[w.heap.size]? = some (.map es clock) := heap_alloc_new w _
  have he : ∀ o : Obj, ({ (w.alloc (.map es clock)) with heap := (w.alloc (.map es clock)).heap.setIfInBounds w.heap.size o } : World) = w.alloc o := by
    intro o
    have : (w.heap.push (.map es clock)).setIfInBounds w.heap.size o = w.heap.push o := by
      apply Array.ext_getElem?
      intro i
      rw [Array.getElem?_setIfInBounds, Array.getElem?_push, Array.getElem?_push]
      by_cases h : i = w.heap.size
      · subst h; simp
      · rw [if_neg (Ne.symm h), if_neg h, if_neg h]
    show ({ w with heap := (w.heap.push (.map es clock)).setIfInBounds w.heap.size o } : World) = { w with heap := w.heap.push o }
    rw [this]
  simp [Instr.mapUpdate, run_underlying hm, MapKept.run_getObj_map hb, hc, MapKept.run_findKey hk hf, MapKept.run_setObj_map _ hb, Result.andThen]
  exact he _
end Go.Proofs.Ytipeeacplhgihaa
