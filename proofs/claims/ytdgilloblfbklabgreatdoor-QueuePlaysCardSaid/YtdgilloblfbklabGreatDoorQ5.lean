/-
  The document's queue: Put where there is room, Send.
-/
import Derived.Test.YtdgilloblfbklabGreatDoorQ4
set_option linter.unusedVariables false
set_option linter.unusedSimpArgs false
set_option maxRecDepth 100000
namespace Go.Proofs.YtdgilloblfbklabGreatDoor.Own
open Go.RowKit

theorem infoRC : ((Tryz.prog.info? 75).map fun i => (i.zero, i.size, i.bytes)) = some (some (.agg #[.int .i64 0, .slice none 0 0]), 2, 32) := by kernel_rfl
theorem outCells_one (O : List (Int × Value)) (h : ∀ j, j < O.length → ∃ A n c, (O.getD j (0, .slice none 0 0)).2 = .slice A n c) : ∀ u ∈ outCells O, u.oneCell' = true := by
  intro u hu
  simp only [outCells, List.mem_flatMap] at hu
  obtain ⟨x, hx, hu⟩ := hu
  obtain ⟨j, hj, e⟩ := List.getElem_of_mem hx
  obtain ⟨A, n, c, h2⟩ := h j hj
  rw [List.getD_eq_getElem?_getD, List.getElem?_eq_getElem hj, e] at h2
  simp only [Option.getD_some] at h2
  simp only [List.mem_cons, List.not_mem_nil, or_false] at hu
  rcases hu with rfl | rfl
  · rfl
  · rw [h2]; rfl
theorem outCells_take (O : List (Int × Value)) (n j : Nat) (hn : n ≤ O.length) (hj : j < n * 2) : (outCells (O.take n))[j]? = (outCells O)[j]? := by
  have h := outCells_append (O.take n) (O.drop n)
  rw [List.take_append_drop] at h
  rw [h, List.getElem?_append_left (by rw [outCells_length, List.length_take]; omega)]
theorem outCells_drop (O : List (Int × Value)) (n j : Nat) (hn : n ≤ O.length) : (outCells (O.drop n))[j]? = (outCells O)[n * 2 + j]? := by
  have h := outCells_append (O.take n) (O.drop n)
  rw [List.take_append_drop] at h
  have hl : (outCells (O.take n)).length = n * 2 := by rw [outCells_length, List.length_take, Nat.min_eq_left hn]
  rw [h, List.getElem?_append_right (by omega), hl, Nat.add_sub_cancel_left]
section
variable {base L c : Nat} {A : Option Addr} {O : List (Int × Value)}
theorem own_slice_hi {W : World} (h : W.ownsRow base 75 2 (.slice A L c) L (outCells O)) (hO : O.length = L) (h1 : ∀ u ∈ outCells O, u.oneCell' = true) (n : Nat) (hn : n ≤ L) :
    ∃ A3 c3, (∀ V : World, (Instr.slice 78 (.slice A L c) none (some (.int .i64 (n : Int))) none).run Tryz.prog V = .ok (.slice A3 n c3) V) ∧ ∀ V : World, V.ownsRow base 75 2 (.slice A L c) L (outCells O) → Cells V A3 n 2 (outCells (O.take n)) := by
  have hLc : L ≤ c := by
    rcases h.2 with ⟨e, h0⟩ | ⟨g, cap, cur, e, _, _, h4, _⟩
    · injection e; omega
    · injection e with _ _ e; omega
  refine ⟨A, c, fun V => ?_, fun V hV => ⟨by rw [outCells_length, List.length_take]; omega, fun u hu => ?_, fun h0 => ?_⟩⟩
  · rw [run_slice_h (P := Tryz.prog) V 78 A L c (by kernel_rfl) .i64 (n : Int) (by omega) (by omega)]
    have hsz : (sizeOf (Tryz.prog.elem 78)).run Tryz.prog V = .ok 2 V := by kernel_rfl
    rw [hsz]
    rcases h.2 with ⟨e, h0⟩ | ⟨g, cap, cur, e, _⟩
    · injection e with e1 _ e3
      subst e1
      simp [sliced, Result.andThen]
    · injection e with e1 _ e3
      subst e1
      simp [sliced, Result.andThen, Addr.add_lit]
  · have hs := outCells_append (O.take n) (O.drop n)
    rw [List.take_append_drop] at hs
    exact h1 u (by rw [hs]; exact List.mem_append_left _ hu)
  · obtain ⟨g, c', hv, _⟩ := own_some hV (by omega)
    injection hv with hv1 _ _
    subst hv1
    refine ⟨_, rfl, fun j u hu => ?_⟩
    have hj : j < n * 2 := by
      rcases Nat.lt_or_ge j (n * 2) with h' | h'
      · exact h'
      · rw [List.getElem?_eq_none (by rw [outCells_length, List.length_take]; omega)] at hu; cases hu
    rw [outCells_take O n j (by omega) hj] at hu
    exact hV.cells (g := g) rfl j u hu
theorem own_slice_lo {W : World} (h : W.ownsRow base 75 2 (.slice A L c) L (outCells O)) (hO : O.length = L) (h1 : ∀ u ∈ outCells O, u.oneCell' = true) (n : Nat) (hn : n ≤ L) :
    ∃ A3 c3, (∀ V : World, (Instr.slice 78 (.slice A L c) (some (.int .i64 (n : Int))) none none).run Tryz.prog V = .ok (.slice A3 (L - n) c3) V) ∧ ∀ V : World, V.ownsRow base 75 2 (.slice A L c) L (outCells O) → Cells V A3 (L - n) 2 (outCells (O.drop n)) := by
  have hLc : L ≤ c := by
    rcases h.2 with ⟨e, h0⟩ | ⟨g, cap, cur, e, _, _, h4, _⟩
    · injection e; omega
    · injection e with _ _ e; omega
  refine ⟨if c = n then A else A.map (·.add (n * 2)), c - n, fun V => ?_, fun V hV => ⟨by rw [outCells_length, List.length_drop]; omega, fun u hu => ?_, fun h0 => ?_⟩⟩
  · rw [run_slice_l (P := Tryz.prog) V 78 A L c (by kernel_rfl) .i64 (n : Int) (by omega) (by omega)]
    have hsz : (sizeOf (Tryz.prog.elem 78)).run Tryz.prog V = .ok 2 V := by kernel_rfl
    rw [hsz]
    simp [sliced, Result.andThen]
  · have hs := outCells_append (O.take n) (O.drop n)
    rw [List.take_append_drop] at hs
    exact h1 u (by rw [hs]; exact List.mem_append_right _ hu)
  · obtain ⟨g, c', hv, _⟩ := own_some hV (by omega)
    injection hv with hv1 _ _
    subst hv1
    rw [if_neg (by omega)]
    refine ⟨⟨g, n * 2, none⟩, by simp [Addr.add_lit], fun j u hu => ?_⟩
    rw [outCells_drop O n j (by omega)] at hu
    have := hV.cells (g := g) rfl _ u hu
    rw [add_plain] at this
    rw [Addr.add_lit]
    exact this
end
set_option maxHeartbeats 3200000 in
theorem RPut_ok {w W : World} {rq room : Nat} {row2 : Value} {L : List Cp} (h : RfAt w W rq room row2 L) (hl : L.length < room) (hr : room ≤ 64) (p : Int) (A : Option Addr) (c : Nat) (xs : List Int) (hR : Reads w .u8 A xs.length xs) :
    Calls Tryz.prog 11 #[.pointer (some ⟨rq, 0, none⟩), .agg #[.int .i64 p, .slice A xs.length c]] W fun e w' => e = .returned (.int .i64 0) ∧ (∃ row3, RfAt w w' rq room row3 (L ++ [(p, xs)]) ∧ ∀ k, row3.ownBlock = some k → row2.ownBlock = some k ∨ W.heap.size ≤ k) ∧ Foot (fun i => i = rq ∨ row2.ownBlock = some i) W w' := by
  have hrq := h.lt
  obtain ⟨A2, c2, rfl, hc2⟩ := h.form
  obtain ⟨O, o1, o2, o3⟩ := h.hr
  have hrb : (Value.slice A2 L.length c2).ownBlock ≠ some rq := fun e => by
    rcases o2.2 with ⟨e', _⟩ | ⟨g, cap, cur, e', h2, _⟩
    · rw [e'] at e; simp [Value.ownBlock] at e
    · rw [e'] at e; simp only [Value.ownBlock, Option.some.injEq] at e; omega
  have hb := (Below.refl W.heap.size W).alloc (Nat.le_refl _) (.cells #[.int .i64 p, .slice A xs.length c] 75)
  have hq := h.later hb
  have hbx := heap_alloc_new W (.cells #[.int .i64 p, .slice A xs.length c] 75)
  have k0 := cellOf hbx 0
  have k1 := cellOf hbx 1
  have c0 := cellOf hq.hb 0
  have c1 := cellOf hq.hb 1
  simp only [List.getElem?_toArray, List.getElem?_cons_zero, List.getElem?_cons_succ] at k0 k1 c0 c1
  have hd : decide ((room : Int) ≤ (L.length : Int)) = false := decide_eq_false (by omega)
  have hdN : decide (room ≤ L.length) = false := decide_eq_false (by omega)
  have H := aside' (And.intro h (And.intro o1 (And.intro o3 (And.intro hR hrb))))
  have HB := aside' (And.intro hb hq.hb)
  have HO := aside' (own_keep o2 hb)
  have hs1 : (W.alloc (.cells #[.int .i64 p, .slice A xs.length c] 75)).heap.size = W.heap.size + 1 := World.size_alloc _ _
  clear h hb hq hbx o2 o3 hR hrb
  generalize hLn : L.length = n at *
  generalize hxm : xs.length = m at *
  have HN := aside' (And.intro hLn hxm)
  clear hLn hxm
  go_enter Tryz.func11, Tryz.ntmps11
  go_wp2_with fail
  generalize hW1 : W.alloc (.cells #[.int .i64 p, .slice A m c] 75) = W1 at *
  go_quiet (fail)
  have hall := aside' (show ∀ q, (W1.drewN q).cell? ⟨rq, 1, none⟩ = some (.slice A2 n c2) ∧ (W1.drewN q).cell? ⟨W.heap.size, 0, none⟩ = some (.int .i64 p) ∧ (W1.drewN q).cell? ⟨W.heap.size, 1, none⟩ = some (.slice A m c) ∧ (W1.drewN q).heap[rq]? = some (.cells #[.int .i64 (room : Int), .slice A2 n c2] 83 (0, 0)) ∧ (W1.drewN q).ownsRow (rq + 1) 75 2 (.slice A2 n c2) n (outCells O) ∧ (W1.drewN q).heap.size = W.heap.size + 1 ∧ Foot (fun i => i = rq ∨ (Value.slice A2 n c2).ownBlock = some i) W (W1.drewN q) from fun q => ⟨c1, k0, k1, HB.out.2, HO.out, hs1, (Foot.ofBelow HB.out.1 _).drewN q⟩)
  clear c0 c1 k0 k1
  obtain ⟨W2, hW2⟩ : ∃ W2, W2 = W1.drewN nq := ⟨_, rfl⟩
  have h2 := hall.out nq
  rw [← hW2] at h2 ⊢
  clear hW2 hall
  obtain ⟨c1, k0, k1, h6, h3, h4, h5⟩ := h2
  have H2 := aside' (And.intro h6 (And.intro h3 h5))
  have HC := aside' (Cells.lit W2.drew 75 #[.int .i64 p, .slice A m c] 1 2 rfl (by intro u hu; simp at hu; rcases hu with rfl | rfl <;> rfl))
  have HO1 := aside' (h3.alloc (.cells #[.int .i64 p, .slice A m c] 75))
  have hq2 : rq < W2.heap.size := by omega
  have ca : (W2.alloc (.cells #[.int .i64 p, .slice A m c] 75)).drew.cell? ⟨rq, 1, none⟩ = some (.slice A2 n c2) := (((Below.refl W2.heap.size W2).alloc (Nat.le_refl _) _).cell (p := ⟨rq, 1, none⟩) hq2).trans c1
  have cb : (W2.drew.alloc (.cells #[.int .i64 p, .slice A m c] 75)).cell? ⟨rq, 1, none⟩ = some (.slice A2 n c2) := ca
  have cc : W2.drew.cell? ⟨rq, 1, none⟩ = some (.slice A2 n c2) := c1
  have cd : W2.drew.cell? ⟨W.heap.size, 0, none⟩ = some (.int .i64 p) := k0
  have ce : W2.drew.cell? ⟨W.heap.size, 1, none⟩ = some (.slice A m c) := k1
  have HS := aside' (show rq + 1 ≤ (W2.drew.alloc (.cells #[.int .i64 p, .slice A m c] 75)).heap.size by simp; omega)
  clear h6 h3 h4 h5
  go_wp2_with fail
  go_region_law ((refine step_append_cells (rq + 1) (by rfl) _ _ 78 75 (.agg #[.int .i64 0, .slice none 0 0]) 2 32 (by rfl) Tryz.underlying78 infoRC (by rfl) (by omega) (by omega) (.slice A2 n c2) n (outCells O) [.int .i64 p, .slice A m c] _ 1 1 (by rfl) (by rfl) (by exact HO1.out) (by exact HC.out) (by exact HS.out) (by omega) ?_; intro v1 w1 hown1 hg1 hat1; obtain ⟨g1, k1', rfl, hgb, hgs, _, _⟩ := own_some hown1 (by omega); have hbk := (hg1.block rq (by simp; omega) (fun e => H.out.2.2.2.2 e.symm)).trans ((Below.heap_alloc W2 (.cells #[.int .i64 p, .slice A m c] 75) rq hq2).trans H2.out.1); have HBK := aside' hbk; have kA : w1.cell? ⟨rq, 1, none⟩ = some (.slice A2 n c2) := (cellOf hbk 1).trans rfl; have kf := frozenOf hbk 1; have HG1 := aside' (And.intro hown1 (And.intro hg1 hat1)); clear hbk))
  all_goals go_wp2
  all_goals go_ret
  all_goals (
    obtain ⟨hown1, hg1, hat1⟩ := HG1.out
    obtain ⟨hRf, o1, o3, hR, hrb⟩ := H.out
    obtain ⟨hLn, hxm⟩ := HN.out
    have hat2 : (Value.slice (some ⟨g1, 0, none⟩) (n + 1) k1').ownBlock = (Value.slice A2 n c2).ownBlock ∨ (Value.slice (some ⟨g1, 0, none⟩) (n + 1) k1').ownBlock = some (W2.drew.alloc (.cells #[.int .i64 p, .slice A m c] 75)).heap.size := hat1
    have hO' : outCells O ++ [.int .i64 p, .slice A m c] = outCells (O ++ [(p, .slice A m c)]) := by rw [outCells_append]; rfl
    rw [hO'] at hown1
    have hft := (((H2.out.2.2.drew.alloc (.cells #[.int .i64 p, .slice A m c] 75)).grown hg1 (fun k hk => .inl (.inr hk))).setCell (p := ⟨rq, 1, none⟩) (.inl (.inl rfl)) (.slice (some ⟨g1, 0, none⟩) (n + 1) k1'))
    have hs2 := H2.out.2.2.size
    have hs3 : (W2.drew.alloc (.cells #[.int .i64 p, .slice A m c] 75)).heap.size = W2.heap.size + 1 := by simp
    have hg : ∀ k, (Value.slice (some ⟨g1, 0, none⟩) (n + 1) k1').ownBlock = some k → (Value.slice A2 n c2).ownBlock = some k ∨ W.heap.size ≤ k := fun k hk => by
      rcases hat2 with e | e
      · exact .inl (e.symm.trans hk)
      · rw [e] at hk; injection hk with hk; exact .inr (by omega)
    have hne : ∀ k, (Value.slice (some ⟨g1, 0, none⟩) (n + 1) k1').ownBlock = some k → ¬ k = rq := fun k hk e => by
      rcases hg k hk with h | h
      · exact hrb (by rw [h, e])
      · omega
    have hf1 := (Foot.refl (fun i => i = rq) w1).setCell (p := ⟨rq, 1, none⟩) (.inl rfl) (.slice (some ⟨g1, 0, none⟩) (n + 1) k1')
    refine ⟨rfl, ⟨_, ⟨(setCell_heap HBK.out 1 _).trans rfl, O ++ [(p, .slice A m c)], by simp [o1, hLn], ?_, fun j hj => ?_⟩, hg⟩, hft⟩
    · have : (L ++ [(p, xs)]).length = n + 1 := by simp [hLn]
      rw [this]
      exact hf1.own hown1 hne
    · simp only [List.length_append, List.length_singleton, hLn] at hj
      rcases Nat.lt_or_ge j n with h' | h'
      · have e3 : (O ++ [(p, Value.slice A m c)]).getD j (0, .slice none 0 0) = O.getD j (0, .slice none 0 0) := by simp only [List.getD_eq_getElem?_getD, List.getElem?_append_left (show j < O.length by omega)]
        have e4 : (L ++ [(p, xs)]).getD j zCp = L.getD j zCp := by simp only [List.getD_eq_getElem?_getD, List.getElem?_append_left (show j < L.length by omega)]
        rw [e3, e4]
        exact o3 j h'
      · obtain rfl : j = n := by omega
        have e1 : (O ++ [(p, Value.slice A m c)]).getD j (0, .slice none 0 0) = (p, .slice A m c) := by simp [List.getD_eq_getElem?_getD, ← o1]
        have e2 : (L ++ [(p, xs)]).getD j zCp = (p, xs) := by simp [List.getD_eq_getElem?_getD, ← hLn]
        rw [e1, e2]
        exact ⟨rfl, A, c, by rw [hxm], by rw [hxm]; exact hR⟩)
/-- What goes, as the document answers it: a row of its own; each copy's bytes are read where they came in. -/
def OutAt (w : World) (W : World) (v : Value) (L : List Cp) : Prop :=
  ∃ O : List (Int × Value), O.length = L.length ∧ (∃ base, W.ownsRow base 75 2 v L.length (outCells O) ∧ w.heap.size ≤ base) ∧ ∀ j, j < L.length → (O.getD j (0, .slice none 0 0)).1 = (L.getD j zCp).1 ∧ ∃ A c, (O.getD j (0, .slice none 0 0)).2 = .slice A (L.getD j zCp).2.length c ∧ Reads w .u8 A (L.getD j zCp).2.length (L.getD j zCp).2
theorem RSend_neg {w W : World} {rq room : Nat} {row2 : Value} {L : List Cp} (h : RfAt w W rq room row2 L) (x : Int) (hx : x < 0) : Calls Tryz.prog 14 #[.pointer (some ⟨rq, 0, none⟩), .int .i64 x] W fun e w' => e = .returned (.tuple #[.slice none 0 0, .int .i64 1]) ∧ w' = W := by
  have hd : decide (x < 0) = true := decide_eq_true hx
  clear h
  go_enter Tryz.func14, Tryz.ntmps14
  go_wp2
  go_ret2
  exact ⟨rfl, rfl⟩
theorem getD_take {α : Type} (l : List α) (n j : Nat) (z : α) (h : j < n) : (l.take n).getD j z = l.getD j z := by simp only [List.getD_eq_getElem?_getD, List.getElem?_take_of_lt h]
theorem getD_drop {α : Type} (l : List α) (n j : Nat) (z : α) : (l.drop n).getD j z = l.getD (n + j) z := by simp only [List.getD_eq_getElem?_getD, List.getElem?_drop]
/-- What is left when Send's two appends are through. -/
theorem send_end {w W w1 w2 : World} {rq room n : Nat} {A2 : Option Addr} {c2 : Nat} {L : List Cp} {O : List (Int × Value)} {v1 v2 : Value} (hw : w.heap.size ≤ W.heap.size) (hrq : rq < W.heap.size) (hb : W.heap[rq]? = some (.cells #[.int .i64 (room : Int), .slice A2 L.length c2] 83 (0, 0))) (o1 : O.length = L.length)
    (o3 : ∀ j, j < L.length → (O.getD j (0, .slice none 0 0)).1 = (L.getD j zCp).1 ∧ ∃ A c, (O.getD j (0, .slice none 0 0)).2 = .slice A (L.getD j zCp).2.length c ∧ Reads w .u8 A (L.getD j zCp).2.length (L.getD j zCp).2) (hn : n ≤ L.length)
    (hb1 : Below W.heap.size W w1) (h1 : w1.ownsRow W.heap.size 75 2 v1 n (outCells (O.take n))) (hb2 : Below w1.heap.size w1 w2) (h2 : w2.ownsRow w1.heap.size 75 2 v2 (L.length - n) (outCells (O.drop n))) :
    OutAt w (w2.setCell ⟨rq, 1, none⟩ v2) v1 (L.take n) ∧ RfAt w (w2.setCell ⟨rq, 1, none⟩ v2) rq room v2 (L.drop n) ∧ (∀ k, v2.ownBlock = some k → W.heap.size ≤ k) ∧ (∀ k, v1.ownBlock = some k → W.heap.size ≤ k ∧ ∀ j, v2.ownBlock = some j → j ≠ k) ∧ Foot (fun i => i = rq) W (w2.setCell ⟨rq, 1, none⟩ v2) := by
  have hs1 := hb1.size
  have hf := (Foot.refl (fun i => i = rq) w2).setCell (p := ⟨rq, 1, none⟩) (.inl rfl) v2
  have hk1 : ∀ k, v1.ownBlock = some k → W.heap.size ≤ k ∧ k < w1.heap.size := fun k hk => by
    rcases h1.2 with ⟨e, _⟩ | ⟨g, cap, cur, e, h3, h4, _⟩
    · rw [e] at hk; simp [Value.ownBlock] at hk
    · rw [e] at hk; simp only [Value.ownBlock, Option.some.injEq] at hk; subst hk; exact ⟨h3, (Array.getElem?_eq_some_iff.1 h4).1⟩
  have hk2 : ∀ k, v2.ownBlock = some k → w1.heap.size ≤ k := fun k hk => by
    rcases h2.2 with ⟨e, _⟩ | ⟨g, cap, cur, e, h3, h4, _⟩
    · rw [e] at hk; simp [Value.ownBlock] at hk
    · rw [e] at hk; simp only [Value.ownBlock, Option.some.injEq] at hk; omega
  have hlt : (L.take n).length = n := by rw [List.length_take]; omega
  have hld : (L.drop n).length = L.length - n := by rw [List.length_drop]
  have hbb := (hb2.block rq (by omega)).trans ((hb1.block rq hrq).trans hb)
  refine ⟨⟨O.take n, by rw [List.length_take, hlt]; omega, ⟨W.heap.size, ?_, hw⟩, fun j hj => ?_⟩, ⟨(setCell_heap hbb 1 v2).trans rfl, O.drop n, by rw [List.length_drop, hld]; omega, ?_, fun j hj => ?_⟩, fun k hk => Nat.le_trans hs1 (hk2 k hk), fun k hk => ⟨(hk1 k hk).1, fun j hj e => by have := hk2 j hj; have := (hk1 k hk).2; omega⟩, ?_⟩
  · rw [hlt]
    exact hf.own (own_keep h1 hb2) (fun k hk e => by have := (hk1 k hk).1; omega)
  · rw [hlt] at hj
    rw [getD_take _ _ _ _ hj, getD_take _ _ _ _ hj]
    exact o3 j (by omega)
  · rw [hld]
    have h3 : w2.ownsRow (rq + 1) 75 2 v2 (L.length - n) (outCells (O.drop n)) := by
      refine ⟨h2.1, h2.2.elim .inl ?_⟩
      rintro ⟨g, cap, cur, e, h4, r⟩
      exact .inr ⟨g, cap, cur, e, by omega, r⟩
    exact hf.own h3 (fun k hk e => by have := hk2 k hk; omega)
  · rw [hld] at hj
    rw [getD_drop, getD_drop]
    exact o3 (n + j) (by omega)
  · exact ((Foot.ofBelow hb1 (fun i => i = rq)).trans (Foot.ofBelow hb2 (fun i => i = rq)) (fun _ h => .inl h)).trans hf (fun _ h => .inl h)
theorem own_cells_grown {W w1 : World} {e : TypeId} {size : Nat} (h : W.ownsRow W.heap.size e size (.slice none 0 0) 0 []) (hg : W.grownBy w1 (Value.slice none 0 0).ownBlock) : Below W.heap.size W w1 := Below.grown (Below.refl _ _) hg (Nat.le_refl _) (by intro q hq; simp [Value.ownBlock] at hq)
set_option maxHeartbeats 3200000 in
theorem RSend_ok {w W : World} {rq room : Nat} {row2 : Value} {L : List Cp} (h : RfAt w W rq room row2 L) (hw : w.heap.size ≤ W.heap.size) (hr : L.length ≤ 64) (x : Nat) (hx9 : x ≤ 9223372036854775807) :
    Calls Tryz.prog 14 #[.pointer (some ⟨rq, 0, none⟩), .int .i64 (x : Int)] W fun e w' => ∃ v1 v2, e = .returned (.tuple #[v1, .int .i64 0]) ∧ OutAt w w' v1 (L.take x) ∧ RfAt w w' rq room v2 (L.drop x) ∧ (∀ k, v2.ownBlock = some k → W.heap.size ≤ k) ∧ (∀ k, v1.ownBlock = some k → W.heap.size ≤ k ∧ ∀ j, v2.ownBlock = some j → j ≠ k) ∧ Foot (fun i => i = rq) W w' := by
  have hrq := h.lt
  obtain ⟨A2, c2, rfl, hc2⟩ := h.form
  obtain ⟨O, o1, o2, o3⟩ := h.hr
  have hone := outCells_one O (fun j hj => by obtain ⟨_, A, c, e, _⟩ := o3 j (by omega); exact ⟨A, _, c, e⟩)
  obtain ⟨n, hn⟩ : ∃ n, n = min x L.length := ⟨_, rfl⟩
  have hnL : n ≤ L.length := by omega
  have htk : L.take x = L.take n := by rw [hn]; rcases Nat.le_total x L.length with h | h <;> simp [Nat.min_eq_left, Nat.min_eq_right, h, List.take_of_length_le]
  have hdk : L.drop x = L.drop n := by rw [hn]; rcases Nat.le_total x L.length with h | h <;> simp [Nat.min_eq_left, Nat.min_eq_right, h, List.drop_eq_nil_of_le]
  rw [htk, hdk]
  obtain ⟨A3, c3, hs3, hC3⟩ := own_slice_hi o2 o1 hone n hnL
  obtain ⟨A4, c4, hs4, hC4⟩ := own_slice_lo o2 o1 hone n hnL
  have c1 := cellOf h.hb 1
  simp only [List.getElem?_toArray, List.getElem?_cons_zero, List.getElem?_cons_succ] at c1
  have hd : decide ((x : Int) < 0) = false := decide_eq_false (by omega)
  have HC3 := aside' (hC3 W o2)
  have H := aside' (And.intro h.hb (And.intro o1 (And.intro o2 (And.intro o3 hC4))))
  have HO := aside' (World.ownsRow_nil W W.heap.size 75 2)
  clear h o3 hC3 hC4 hone
  have main : True := trivial
  by_cases hgt : L.length < x
  · have hd2 : decide ((L.length : Int) < (x : Int)) = true := decide_eq_true (by omega)
    have hnn : L.length = n := by omega
    have hs3' : ∀ V : World, (Instr.slice 78 (.slice A2 L.length c2) none (some (.int .i64 (L.length : Int))) none).run Tryz.prog V = .ok (.slice A3 n c3) V := fun V => by have := hs3 V; rwa [← hnn] at this ⊢
    have hs4' : ∀ V : World, (Instr.slice 78 (.slice A2 L.length c2) (some (.int .i64 (L.length : Int))) none none).run Tryz.prog V = .ok (.slice A4 (L.length - n) c4) V := fun V => by have := hs4 V; rwa [← hnn] at this ⊢
    clear hs3 hs4
    have HNN := aside' hnn
    clear hnn htk hdk hn
    go_enter Tryz.func14, Tryz.ntmps14
    go_upto_region 6 with (at_builtin; refine append_cells W.heap.size rfl _ _ 78 75 (.agg #[.int .i64 0, .slice none 0 0]) 2 32 rfl Tryz.underlying78 infoRC rfl (by omega) (by omega) (.slice none 0 0) 0 [] (outCells (O.take n)) A3 n c3 rfl rfl HO.out HC3.out (Nat.le_refl _) (by omega) ?_; intro v1 w1 hown1 hg1 _; have hb1 := own_cells_grown HO.out hg1; have HG1 := aside' (And.intro hown1 hb1); have c1' := (hb1.cell (p := ⟨rq, 1, none⟩) hrq).trans c1; have f1 := frozenOf ((hb1.block rq hrq).trans H.out.1) 1; have HO4 := aside' (World.ownsRow_nil w1 w1.heap.size 75 2); have HC4 := aside' (H.out.2.2.2.2 w1 (own_keep H.out.2.2.1 hb1)); clear hown1 hg1 hb1)
    obtain ⟨Av, Lv, cv, rfl, HLv⟩ := own_form HG1.out.1
    go_wp2_with (at_builtin; refine append_cells w1.heap.size rfl _ _ 78 75 (.agg #[.int .i64 0, .slice none 0 0]) 2 32 rfl Tryz.underlying78 infoRC rfl (by omega) (by omega) (.slice none 0 0) 0 [] (outCells (O.drop n)) A4 (L.length - n) c4 rfl rfl HO4.out HC4.out (Nat.le_refl _) (by omega) ?_; intro v2 w2 hown2 hg2 _; have hb2 := own_cells_grown HO4.out hg2; have HG2 := aside' (And.intro hown2 hb2); have c2' := (hb2.cell (p := ⟨rq, 1, none⟩) (Nat.lt_of_lt_of_le hrq HG1.out.2.size)).trans c1'; have f2 := frozenOf ((hb2.block rq (Nat.lt_of_lt_of_le hrq HG1.out.2.size)).trans ((HG1.out.2.block rq hrq).trans H.out.1)) 1; obtain ⟨Aw, Lw, cw, rfl, HLw⟩ := own_form hown2; clear hown2 hg2 hb2)
    go_ret2
    have hg1 := HG1.out
    have hg2 := HG2.out
    simp only [Nat.zero_add, List.nil_append] at hg1 hg2
    exact ⟨_, _, rfl, send_end hw hrq H.out.1 H.out.2.1 H.out.2.2.2.1 hnL hg1.2 hg1.1 hg2.2 hg2.1⟩
  · have hd2 : decide ((L.length : Int) < (x : Int)) = false := decide_eq_false (by omega)
    have hnn : x = n := by omega
    subst hnn
    clear htk hdk hn
    go_enter Tryz.func14, Tryz.ntmps14
    go_upto_region 6 with (at_builtin; refine append_cells W.heap.size rfl _ _ 78 75 (.agg #[.int .i64 0, .slice none 0 0]) 2 32 rfl Tryz.underlying78 infoRC rfl (by omega) (by omega) (.slice none 0 0) 0 [] (outCells (O.take x)) A3 x c3 rfl rfl HO.out HC3.out (Nat.le_refl _) (by omega) ?_; intro v1 w1 hown1 hg1 _; have hb1 := own_cells_grown HO.out hg1; have HG1 := aside' (And.intro hown1 hb1); have c1' := (hb1.cell (p := ⟨rq, 1, none⟩) hrq).trans c1; have f1 := frozenOf ((hb1.block rq hrq).trans H.out.1) 1; have HO4 := aside' (World.ownsRow_nil w1 w1.heap.size 75 2); have HC4 := aside' (H.out.2.2.2.2 w1 (own_keep H.out.2.2.1 hb1)); clear hown1 hg1 hb1)
    obtain ⟨Av, Lv, cv, rfl, HLv⟩ := own_form HG1.out.1
    go_wp2_with (at_builtin; refine append_cells w1.heap.size rfl _ _ 78 75 (.agg #[.int .i64 0, .slice none 0 0]) 2 32 rfl Tryz.underlying78 infoRC rfl (by omega) (by omega) (.slice none 0 0) 0 [] (outCells (O.drop x)) A4 (L.length - x) c4 rfl rfl HO4.out HC4.out (Nat.le_refl _) (by omega) ?_; intro v2 w2 hown2 hg2 _; have hb2 := own_cells_grown HO4.out hg2; have HG2 := aside' (And.intro hown2 hb2); have c2' := (hb2.cell (p := ⟨rq, 1, none⟩) (Nat.lt_of_lt_of_le hrq HG1.out.2.size)).trans c1'; have f2 := frozenOf ((hb2.block rq (Nat.lt_of_lt_of_le hrq HG1.out.2.size)).trans ((HG1.out.2.block rq hrq).trans H.out.1)) 1; obtain ⟨Aw, Lw, cw, rfl, HLw⟩ := own_form hown2; clear hown2 hg2 hb2)
    go_ret2
    have hg1 := HG1.out
    have hg2 := HG2.out
    simp only [Nat.zero_add, List.nil_append] at hg1 hg2
    exact ⟨_, _, rfl, send_end hw hrq H.out.1 H.out.2.1 H.out.2.2.2.1 hnL hg1.2 hg1.1 hg2.2 hg2.1⟩
end Go.Proofs.YtdgilloblfbklabGreatDoor.Own
