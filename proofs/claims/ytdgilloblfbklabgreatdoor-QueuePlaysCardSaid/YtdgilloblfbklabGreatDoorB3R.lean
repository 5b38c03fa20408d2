/-
  Rows of bytes that are the law's own, their spare room cut off or not.
-/
import Derived.Test.YtdgilloblfbklabGreatDoorLib
import Derived.Test.YtdgilloblfbklabGreatDoorAppendCells
set_option linter.unusedVariables false
set_option linter.unusedSimpArgs false
namespace Go.Proofs.YtdgilloblfbklabGreatDoor.Own
open Go.RowKit

/-- A row of bytes in a block of the law's own; its room may be less than the block's. -/
def FRow (W : World) (base : Nat) (v : Value) (n : Nat) (xs : List Int) : Prop :=
  xs.length = n ∧ ((v = .slice none 0 0 ∧ n = 0) ∨ ∃ g cap cur, v = .slice (some ⟨g, 0, none⟩) n cap ∧ base ≤ g ∧ W.heap[g]? = some (.cells cur 5 (0, 0)) ∧ n ≤ cap ∧ cap ≤ maxLen ∧ cap ≤ cur.size ∧ cur.toList.take n = nums .u8 xs)
section
variable {W W' : World} {base n : Nat} {v : Value} {xs : List Int}
theorem FRow.of_own (h : W.ownsRow base 5 1 v n (nums .u8 xs)) : FRow W base v n xs := by
  have hl : xs.length = n := by have := h.1; simpa [nums] using this
  refine ⟨hl, ?_⟩
  rcases h.2 with ⟨h1, h2⟩ | ⟨g, cap, cur, h1, h2, h3, h4, h5, h6, h7⟩
  · exact .inl ⟨h1, h2⟩
  · exact .inr ⟨g, cap, cur, h1, h2, h3, h4, h5, by omega, by simpa [nums, hl] using h7⟩
theorem FRow.nil : FRow W base (.slice none 0 0) 0 [] := ⟨rfl, .inl ⟨rfl, rfl⟩⟩
theorem FRow.form (h : FRow W base v n xs) : ∃ A L c, v = .slice A L c ∧ Aside (L = n) := by
  rcases h.2 with ⟨rfl, h0⟩ | ⟨g, cap, cur, rfl, _⟩
  · exact ⟨_, _, _, rfl, h0.symm⟩
  · exact ⟨_, _, _, rfl, rfl⟩
theorem FRow.cap_ {A : Option Addr} {c : Nat} (h : FRow W base (.slice A n c) n xs) : n ≤ c := by
  rcases h.2 with ⟨e, h⟩ | ⟨g, cap, cur, e, _, _, h, _⟩
  · injection e; omega
  · injection e with _ _ e; omega
theorem FRow.clip {A : Option Addr} {c : Nat} (h : FRow W base (.slice A n c) n xs) : FRow W base (.slice A n n) n xs := by
  refine ⟨h.1, ?_⟩
  rcases h.2 with ⟨e, h0⟩ | ⟨g, cap, cur, e, h2, h3, h4, h5, h6, h7⟩
  · injection e with e1 _ _
    subst e1
    subst h0
    exact .inl ⟨rfl, rfl⟩
  · injection e with e1 _ e3
    subst e1
    exact .inr ⟨g, n, cur, rfl, h2, h3, Nat.le_refl _, by omega, by omega, h7⟩
theorem FRow.foot {G : Nat → Prop} (h : FRow W base v n xs) (hf : Foot G W W') (hne : ∀ k, v.ownBlock = some k → ¬ G k) : FRow W' base v n xs := by
  refine ⟨h.1, h.2.elim .inl ?_⟩
  rintro ⟨g, cap, cur, h1, h2, h3, r⟩
  exact .inr ⟨g, cap, cur, h1, h2, hf.blk h3 (hne g (by rw [h1]; rfl)), r⟩
theorem FRow.keep (h : FRow W base v n xs) (hb : Below W.heap.size W W') : FRow W' base v n xs := h.foot (Foot.ofBelow hb (fun _ => False)) (fun _ _ h => h)
theorem FRow.alloc (h : FRow W base v n xs) (o : Obj) : FRow (W.alloc o) base v n xs := h.foot ((Foot.refl (fun _ => False) W).alloc o) (fun _ _ h => h)
theorem FRow.base_ {base' : Nat} (h : FRow W base v n xs) (hb : base' ≤ base) : FRow W base' v n xs := by
  refine ⟨h.1, h.2.elim .inl ?_⟩
  rintro ⟨g, cap, cur, h1, h2, r⟩
  exact .inr ⟨g, cap, cur, h1, Nat.le_trans hb h2, r⟩
theorem FRow.some_ (h : FRow W base v n xs) (hn : 0 < n) : ∃ g c, v = .slice (some ⟨g, 0, none⟩) n c ∧ base ≤ g ∧ g < W.heap.size ∧ n ≤ c ∧ c ≤ 9223372036854775807 := by
  rcases h.2 with ⟨_, h0⟩ | ⟨g, cap, cur, h1, h2, h3, h4, h5, _⟩
  · omega
  · exact ⟨g, cap, h1, h2, (Array.getElem?_eq_some_iff.1 h3).1, h4, by simpa [maxLen] using h5⟩
theorem FRow.lt (h : FRow W base v n xs) : ∀ k, v.ownBlock = some k → base ≤ k ∧ k < W.heap.size := by
  intro k hk
  rcases h.2 with ⟨rfl, _⟩ | ⟨g, cap, cur, rfl, h1, h2, _⟩
  · simp [Value.ownBlock] at hk
  · simp only [Value.ownBlock, Option.some.injEq] at hk
    subst hk
    exact ⟨h1, (Array.getElem?_eq_some_iff.1 h2).1⟩
theorem FRow.cells {g c : Nat} (h : FRow W base (.slice (some ⟨g, 0, none⟩) n c) n xs) : ∀ j u, (nums .u8 xs)[j]? = some u → W.cell? ((⟨g, 0, none⟩ : Addr).add j) = some u := by
  intro j u hu
  have hj : j < n := by
    rcases Nat.lt_or_ge j n with h' | h'
    · exact h'
    · rw [List.getElem?_eq_none (by simp [nums, h.1]; omega)] at hu; cases hu
  rcases h.2 with ⟨e, _⟩ | ⟨g', cap, cur, e, _, h3, _, _, _, h7⟩
  · cases e
  · injection e with e _ _
    injection e with e
    injection e with e
    subst e
    rw [add_plain, cellOf h3 j]
    rw [← h7, List.getElem?_take_of_lt hj] at hu
    simpa using hu
theorem FRow.at_ {g c : Nat} (h : FRow W base (.slice (some ⟨g, 0, none⟩) n c) n xs) (j : Nat) (hj : j < n) : W.cell? ⟨g, j, none⟩ = some (.int .u8 (xs.getD j 0)) := by
  have := h.cells j (.int .u8 (xs.getD j 0)) (by simp [nums, List.getElem?_eq_getElem (show j < xs.length by have := h.1; omega), List.getD_eq_getElem?_getD])
  rwa [add_plain] at this
theorem FRow.frozen {g c : Nat} (h : FRow W base (.slice (some ⟨g, 0, none⟩) n c) n xs) (j : Nat) : W.frozen? ⟨g, j, none⟩ = false := by
  rcases h.2 with ⟨e, _⟩ | ⟨g', cap, cur, e, _, h3, _⟩
  · cases e
  · injection e with e _ _
    injection e with e
    injection e with e
    subst e
    exact frozenOf h3 j
theorem FRow.put {g c : Nat} (h : FRow W base (.slice (some ⟨g, 0, none⟩) n c) n xs) (j : Nat) (x : Int) : FRow (W.setCell ⟨g, j, none⟩ (.int .u8 x)) base (.slice (some ⟨g, 0, none⟩) n c) n (xs.set j x) := by
  refine ⟨by rw [List.length_set]; exact h.1, ?_⟩
  rcases h.2 with ⟨e, _⟩ | ⟨g', cap, cur, e, h2, h3, h4, h5, h6, h7⟩
  · cases e
  · injection e with e _ e3
    injection e with e
    injection e with e
    subst e
    subst e3
    refine .inr ⟨g, c, _, rfl, h2, setCell_heap h3 j _, h4, h5, by simpa using h6, ?_⟩
    rw [nums, List.map_set, ← nums, ← h7]
    simp [List.take_set]
theorem FRow.rd {A : Option Addr} {c : Nat} (h : FRow W base (.slice A n c) n xs) : Reads W .u8 A n xs := by
  rcases h.2 with ⟨e, h0⟩ | ⟨g, cap, cur, e, _, _, _, h5, _⟩
  · subst h0
    exact ⟨h.1, by omega, fun h => by omega⟩
  · injection e with e1 _ e3
    subst e1
    have hc := h.cap_
    refine ⟨h.1, by simp only [maxLen] at h5; omega, fun hn => ⟨_, rfl, fun j hj => ?_⟩⟩
    have := h.at_ j hj
    rwa [add_plain]
end
/-- append of bytes to such a row. -/
theorem run_append_frow {P : Program} {W : World} (base : Nat) (t ty : TypeId) (ht : P.underlying t = some (.slice 5)) (hinfo : (P.info? 5).map (fun i => (i.zero, i.size, i.bytes)) = some (some (.int .u8 0), 1, 1))
    (v : Value) (n : Nat) (xs ys : List Int) (ad : Addr) (m c : Nat) (HO : FRow W base v n xs) (HR : Reads W .u8 (some ad) m ys) (hm : 0 < m) (hbase : base ≤ W.heap.size) (hl : n + m ≤ 140737488355328) :
    ∃ v1 w1, (Builtin.append_ #[t, t] ty #[v, .slice (some ad) m c]).run P W = .ok v1 w1 ∧ FRow w1 base v1 (n + m) (xs ++ ys) ∧ W.grownBy w1 v.ownBlock ∧ (v1.ownBlock = v.ownBlock ∨ (v1.ownBlock = some W.heap.size ∧ W.grownBy w1 none)) := by
  obtain ⟨i0, hi, hzz⟩ := Option.map_eq_some_iff.1 hinfo
  simp only [Prod.mk.injEq] at hzz
  obtain ⟨hz0, hz1, hz2⟩ := hzz
  have hyl : ys.length = m := HR.1
  have hxl : xs.length = n := HO.1
  have hcells : ∀ j u, (nums .u8 ys)[j]? = some u → W.cell? (ad.add j) = some u := by
    intro j u hu
    have hj : j < ys.length := by
      rcases Nat.lt_or_ge j ys.length with h | h
      · exact h
      · simp [nums, List.getElem?_eq_none h] at hu
    obtain ⟨ad', h', hc⟩ := HR.2.2 hm
    injection h' with h'
    subst h'
    have := hc j (by omega)
    simp [nums, List.getElem?_eq_getElem hj] at hu
    subst hu
    rw [this]
    simp [List.getD_eq_getElem?_getD, List.getElem?_eq_getElem hj]
  have hnl : (nums .u8 ys).length = m * i0.size := by rw [hz1]; simp [nums, hyl]
  have hone : ∀ u ∈ nums .u8 ys, u.oneCell' = true := by intro u hu; simp only [nums, List.mem_map] at hu; obtain ⟨q, _, rfl⟩ := hu; rfl
  have h63 : n + m ≤ maxLen := by simp only [maxLen]; omega
  have hnum : nums .u8 (xs ++ ys) = nums .u8 xs ++ nums .u8 ys := by simp [nums]
  have grown : ∀ (old : Nat) (row : Option Nat),
      FRow (W.drew.alloc (.cells ((nums .u8 xs).toArray ++ (nums .u8 ys).toArray ++ Builtin.zeroCells (Value.int .u8 0).cells (grownCap W (n + m) old 5 - (n + m))) 5)) base (.slice (some ⟨W.heap.size, 0, none⟩) (n + m) (grownCap W (n + m) old 5)) (n + m) (xs ++ ys) ∧
      W.grownBy (W.drew.alloc (.cells ((nums .u8 xs).toArray ++ (nums .u8 ys).toArray ++ Builtin.zeroCells (Value.int .u8 0).cells (grownCap W (n + m) old 5 - (n + m))) 5)) row := by
    intro old row
    have hge := grownCap_ge W (n + m) old 5
    have hcm : grownCap W (n + m) old 5 ≤ maxLen := grownCap_le_maxLen W (n + m) old 5 h63
    refine ⟨⟨by rw [List.length_append]; omega, .inr ⟨W.heap.size, _, _, rfl, hbase, heap_alloc_new W.drew _, hge, hcm, ?_, ?_⟩⟩, ⟨rfl, rfl, rfl, by simp, fun k hk _ => Below.heap_alloc W.drew _ k hk⟩⟩
    · have hzc : (Value.int .u8 0).cells.size = 1 := rfl
      simp only [Array.size_append, List.size_toArray, size_zeroCells, hzc, nums, List.length_map, hxl, hyl]
      omega
    · simp only [Array.toList_append, List.append_assoc, hnum]
      rw [← List.append_assoc]
      exact List.take_left' (by simp [nums]; omega)
  rcases HO.2 with ⟨rfl, h0⟩ | ⟨g, cap, cur, rfl, hbg, hg, hnc, hcm, hcs, htake⟩
  · subst h0
    obtain rfl : xs = [] := List.eq_nil_of_length_eq_zero hxl
    have hr := run_append_nil (P := P) W t ty 5 i0 (.int .u8 0) ht hi hz0 ad m c (nums .u8 ys) hnl hcells hm (by omega) (by rw [hz2]; omega)
    have hgr := grown 0 none
    have hgr2 := grown 0 (Value.ownBlock (.slice none 0 0))
    simp only [Nat.zero_add, List.nil_append, nums, List.map_nil, Array.empty_append] at hr hgr hgr2 ⊢
    exact ⟨_, _, hr, hgr.1, hgr2.2, .inr ⟨rfl, hgr.2⟩⟩
  · by_cases hroom : n + m ≤ cap
    · have hfit : n * i0.size + (nums .u8 ys).length ≤ cur.size := by rw [hz1]; simp [nums, hyl]; omega
      have hr := run_append_room (P := P) W t ty 5 i0 ht hi g n cap cur hg ad m c (nums .u8 ys) hnl hcells hone hroom hfit
      refine ⟨_, _, hr, ⟨by rw [List.length_append]; omega, .inr ⟨g, cap, _, rfl, hbg, setRow_heap W g cur _ 5 _ hg, hroom, hcm, ?_, ?_⟩⟩, ⟨rfl, rfl, rfl, by simp, fun k _ hk => setRow_other W g k _ (fun e => hk (by simp [Value.ownBlock, e]))⟩, .inl rfl⟩
      · simp only [List.size_toArray, List.length_append, List.length_take, List.length_drop, Array.length_toList]
        omega
      · have e1 : cur.toList.take (n * i0.size) = nums .u8 xs := by rw [hz1, Nat.mul_one]; exact htake
        rw [e1, hnum]
        exact List.take_left' (by simp [nums]; omega)
    · have holds : ∀ j u, (nums .u8 xs)[j]? = some u → W.cell? ((⟨g, 0, none⟩ : Addr).add j) = some u := HO.cells
      have hr := run_append_grow (P := P) W t ty 5 i0 (.int .u8 0) ht hi hz0 ⟨g, 0, none⟩ n cap (nums .u8 xs) (by rw [hz1]; simp [nums, hxl]) holds ad m c (nums .u8 ys) hnl hcells (by omega) (by omega) (by rw [hz2]; exact growslice_fits (by omega) (by omega))
      have hgr := grown cap none
      have hgr2 := grown cap (Value.ownBlock (.slice (some ⟨g, 0, none⟩) n cap))
      exact ⟨_, _, hr, hgr.1, hgr2.2, .inr ⟨rfl, hgr.2⟩⟩
/-- The law at a plain region's list. -/
theorem append_frow {P : Program} {ops : Array Oper} {rest : List Oper} {o : Oper} {a : Act} {Q : Exit → Act → World → Prop} {W : World} (base : Nat) (hgd : o.guard = none) (s x : Operand) (t : TypeId)
    (ho : o.op = .call { callee := .builtin .append, args := #[s, x], argTypes := #[t, t] })
    (ht : P.underlying t = some (.slice 5)) (hinfo : (P.info? 5).map (fun i => (i.zero, i.size, i.bytes)) = some (some (.int .u8 0), 1, 1))
    (v : Value) (n : Nat) (xs ys : List Int) (ad : Addr) (m c : Nat) (hs : a.eval s = v) (hx : a.eval x = .slice (some ad) m c) (hm : 0 < m)
    (HO : FRow W base v n xs) (HR : Reads W .u8 (some ad) m ys) (hbase : base ≤ W.heap.size) (hl : n + m ≤ 140737488355328)
    (h : ∀ v1 w1, FRow w1 base v1 (n + m) (xs ++ ys) → W.grownBy w1 v.ownBlock → (v1.ownBlock = v.ownBlock ∨ (v1.ownBlock = some W.heap.size ∧ W.grownBy w1 none)) → wpList P ops Q rest (a.put o.dst v1) w1) :
    wpList P ops Q (o :: rest) a W := by
  refine wpList_plain hgd fun K hK => ?_
  obtain ⟨v1, w1, hr, hown, hg, hat⟩ := run_append_frow (P := P) (W := W) base t o.type ht hinfo v n xs ys ad m c HO HR hm hbase hl
  unfold Oper.wp execOp
  simp only [ho, resolve, invoke, builtin, Sem.run_bind, Sem.run_pure, Result.andThen_ok, List.map_toArray, List.map_cons, List.map_nil, hs, hx, hr]
  exact hK _ _ (h v1 w1 hown hg hat)
end Go.Proofs.YtdgilloblfbklabGreatDoor.Own
