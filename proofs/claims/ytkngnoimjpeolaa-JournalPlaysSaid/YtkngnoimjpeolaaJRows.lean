/-
  What the laws on the journal keep: bytes, records and ends in rows of their own.
-/
import Derived.Test.YtkngnoimjpeolaaJAlive
set_option linter.unusedVariables false
set_option linter.unusedSimpArgs false
namespace Go.Proofs.Ytkngnoimjpeolaa
open Go.RowKit SumsMath

def Sep (u v : Value) : Prop := ∀ k, u.ownBlock = some k → v.ownBlock ≠ some k
theorem Sep.symm {u v : Value} (h : Sep u v) : Sep v u := fun k e e' => h k e' e
theorem Sep.nil (v : Value) : Sep (.slice none 0 0) v := fun k e => by cases e
theorem own_other {W w1 : World} {base n : Nat} {e : TypeId} {size : Nat} {v u : Value} {xs : List Value} (hu : W.ownsRow base e size u n xs) (hg : W.grownBy w1 v.ownBlock) (hs : Sep u v) : w1.ownsRow base e size u n xs :=
  own_map hu (fun g cs t _ hq hh => (hg.block g (own_lt hu hq).2 (fun e => hs g hq e.symm)).trans hh)
theorem sep_other {W : World} {base n : Nat} {e : TypeId} {size : Nat} {v v1 u : Value} {xs : List Value} (hu : W.ownsRow base e size u n xs) (hat : v1.ownBlock = v.ownBlock ∨ v1.ownBlock = some W.heap.size) (hs : Sep u v) : Sep u v1 := fun k e e' => by
  rcases hat with h | h
  · exact hs k e (h.symm.trans e')
  · rw [h] at e'; injection e' with e'; have := (own_lt hu e).2; omega

/-- Records that are wanted: slices that lay in memory when the law began. -/
def WantAt (w W : World) (base : Nat) (v : Value) (rows : List (List Int)) : Prop :=
  ∃ vs : List Value, W.ownsRow base 26 1 v rows.length vs ∧ ∀ i, i < rows.length → ∃ B d, vs[i]? = some (.slice B (rows.getD i []).length d) ∧ (rows.getD i []).length ≤ d ∧ (rows.getD i []).length ≤ 140737488351232 ∧ Reads w .u8 B (rows.getD i []).length (rows.getD i [])
theorem WantAt.map {w W W' : World} {base : Nat} {v : Value} {rows : List (List Int)} (h : WantAt w W base v rows) (f : ∀ {n xs}, W.ownsRow base 26 1 v n xs → W'.ownsRow base 26 1 v n xs) : WantAt w W' base v rows := by
  obtain ⟨vs, h1, h2⟩ := h
  exact ⟨vs, f h1, h2⟩
theorem WantAt.nil (w W : World) (base : Nat) : WantAt w W base (.slice none 0 0) [] := ⟨[], World.ownsRow_nil _ _ _ _, fun i hi => by cases hi⟩
theorem WantAt.push {w W' : World} {base : Nat} {v' : Value} {rows : List (List Int)} {x : List Int} {B : Option Addr} {d : Nat} {vs : List Value} (h2 : ∀ i, i < rows.length → ∃ B d, vs[i]? = some (.slice B (rows.getD i []).length d) ∧ (rows.getD i []).length ≤ d ∧ (rows.getD i []).length ≤ 140737488351232 ∧ Reads w .u8 B (rows.getD i []).length (rows.getD i [])) (hl : vs.length = rows.length)
    (hown : W'.ownsRow base 26 1 v' (rows.length + 1) (vs ++ [.slice B x.length d])) (hx : x.length ≤ d) (hx2 : x.length ≤ 140737488351232) (hr : Reads w .u8 B x.length x) : WantAt w W' base v' (rows ++ [x]) := by
  refine ⟨vs ++ [.slice B x.length d], by simpa using hown, fun i hi => ?_⟩
  rcases Nat.lt_or_ge i rows.length with hlt | hge
  · have e : (rows ++ [x]).getD i [] = rows.getD i [] := by rw [List.getD_eq_getElem?_getD, List.getElem?_append_left hlt, List.getD_eq_getElem?_getD]
    rw [e, List.getElem?_append_left (by omega)]
    exact h2 i hlt
  · obtain rfl : i = rows.length := by simp at hi; omega
    have e : (rows ++ [x]).getD rows.length [] = x := by rw [List.getD_eq_getElem?_getD, List.getElem?_append_right (Nat.le_refl _)]; simp
    rw [e, List.getElem?_append_right (by omega), hl]
    exact ⟨B, d, by simp, hx, hx2, hr⟩
theorem own_len {w : World} {base n : Nat} {e : TypeId} {v : Value} {xs : List Value} (h : w.ownsRow base e 1 v n xs) : xs.length = n := by have := h.1; simpa using this
theorem WantAt.reads {w W : World} {base : Nat} {v : Value} {rows : List (List Int)} (h : WantAt w W base v rows) (hb : Below w.heap.size w W) : ∃ A c, v = .slice A rows.length c ∧ rows.length ≤ c ∧ ReadsRows W A rows.length rows := by
  obtain ⟨vs, h2, h3⟩ := h
  rcases h2.2 with ⟨h4, h5⟩ | ⟨g, cap, cur, h4, h5, h6, h7, h8, _⟩
  · exact ⟨none, 0, by rw [h4, h5], by omega, rfl, by omega, fun hn => by omega⟩
  · refine ⟨some ⟨g, 0, none⟩, cap, h4, h7, rfl, by simp only [maxLen] at h8; omega, fun hn => ⟨g, 0, rfl, (Array.getElem?_eq_some_iff.1 h6).1, fun j hj => ?_⟩⟩
    obtain ⟨B, d, e1, e2, e3, e4⟩ := h3 j hj
    rw [h4] at h2
    have hc := h2.cells (g := g) rfl j _ e1
    rw [add_plain] at hc
    exact ⟨B, d, by rw [Nat.zero_add]; exact hc, e2, e3, e4.below hb⟩

theorem reads_one (W : World) (k : IntKind) (t : TypeId) (x : Int) : Reads (W.alloc (.cells #[.int k x] t)) k (some ⟨W.heap.size, 0, none⟩) 1 [x] := reads_block (heap_alloc_new W (.cells #[.int k x] t)) rfl rfl (by decide)
/-- Bytes that may be framed. -/
def gd (x : List Int) : Bool := decide (1 ≤ x.length ∧ x.length ≤ 65537)
def gs (rows : List (List Int)) (k : Nat) : List (List Int) := (rows.take k).filter gd
theorem gs_succ (rows : List (List Int)) (k : Nat) (h : k < rows.length) : gs rows (k + 1) = gs rows k ++ (if gd (rows.getD k []) then [rows.getD k []] else []) := by
  unfold gs
  rw [List.take_succ_eq_append_getElem h, List.filter_append]
  simp [List.getD_eq_getElem?_getD, List.getElem?_eq_getElem h, List.filter_cons]
theorem gs_yes (rows : List (List Int)) (k : Nat) (h : k < rows.length) (hg : gd (rows.getD k []) = true) : gs rows (k + 1) = gs rows k ++ [rows.getD k []] := by rw [gs_succ rows k h, if_pos hg]
theorem gs_no (rows : List (List Int)) (k : Nat) (h : k < rows.length) (hg : gd (rows.getD k []) = false) : gs rows (k + 1) = gs rows k := by rw [gs_succ rows k h, hg]; simp
theorem gs_mem (rows : List (List Int)) (k : Nat) (hb : ∀ j, j < rows.length → Bytes (rows.getD j [])) : ∀ x ∈ gs rows k, JMath.good (sumF 2) x := by
  intro x hx
  obtain ⟨h1, h2⟩ := List.mem_filter.1 hx
  have h3 : 1 ≤ x.length ∧ x.length ≤ 65537 := of_decide_eq_true h2
  obtain ⟨j, hj, rfl⟩ := List.mem_iff_getElem.1 (List.mem_of_mem_take h1)
  have h4 := hb j hj
  rw [List.getD_eq_getElem?_getD, List.getElem?_eq_getElem hj] at h4
  have h5 := sumF_bd 2 _ h4
  exact ⟨h3.1, h3.2, h5.1, h5.2⟩
theorem gs_len (rows : List (List Int)) (k : Nat) : (gs rows k).length ≤ k := by
  unfold gs
  exact Nat.le_trans (List.length_filter_le _ _) (List.length_take_le _ _)
theorem gs_total (rows : List (List Int)) (k : Nat) : JMath.total (gs rows k) ≤ 8 * rows.length + lens rows := by
  unfold gs lens
  have key : ∀ l : List (List Int), JMath.total (l.filter gd) ≤ 8 * l.length + (l.map List.length).sum := by
    intro l
    induction l with
    | nil => simp [JMath.total]
    | cons x l ih =>
      rw [List.filter_cons]
      split
      · simp only [JMath.total, List.length_cons, List.map_cons, List.sum_cons]; omega
      · simp only [List.length_cons, List.map_cons, List.sum_cons]; omega
  have h1 := key (rows.take k)
  have h2 : ((rows.take k).map List.length).sum ≤ (rows.map List.length).sum := by
    conv => rhs; rw [← List.take_append_drop k rows, List.map_append, List.sum_append]
    exact Nat.le_add_right _ _
  have h3 := List.length_take_le' k rows
  omega
def endsOf (l : List (List Int)) : List Int := (List.range l.length).map fun i => (JMath.total (l.take (i + 1)) : Int)
theorem endsOf_length (l : List (List Int)) : (endsOf l).length = l.length := by simp [endsOf]
theorem endsOf_get (l : List (List Int)) (i : Nat) (h : i < l.length) : (endsOf l).getD i 0 = (JMath.total (l.take (i + 1)) : Int) := by
  simp [endsOf, List.getD_eq_getElem?_getD, h]
theorem endsOf_push (l : List (List Int)) (x : List Int) : endsOf (l ++ [x]) = endsOf l ++ [(JMath.total (l ++ [x]) : Int)] := by
  unfold endsOf
  rw [List.length_append, List.length_singleton, List.range_succ, List.map_append]
  congr 1
  · apply List.map_congr_left
    intro i hi
    rw [List.mem_range] at hi
    rw [List.take_append_of_le_length (by omega)]
  · simp only [List.map_cons, List.map_nil]
    rw [List.take_of_length_le (by simp)]
theorem flat_push (l : List (List Int)) (x : List Int) : JMath.flat (sumF 2) (l ++ [x]) = JMath.flat (sumF 2) l ++ frm x := by
  rw [JMath.flat_append]
  simp [JMath.flat, frm]

/-- What the laws keep: bytes, records, and where these end or begin. -/
structure BK (w W : World) (vb vw ve : Value) (bs : List Int) (l : List (List Int)) (es : List Int) : Prop where
  b : W.ownsRow w.heap.size 5 1 vb bs.length (nums .u8 bs)
  wn : WantAt w W w.heap.size vw l
  e : W.ownsRow w.heap.size 3 1 ve es.length (nums .i64 es)
  bw : Sep vw vb
  eb : Sep ve vb
  ew : Sep ve vw
  below : Below w.heap.size w W
section
variable {w W W' : World} {vb vw ve v1 : Value} {bs es bs' : List Int} {l : List (List Int)}
theorem BK.start (h : Below w.heap.size w W) : BK w W (.slice none 0 0) (.slice none 0 0) (.slice none 0 0) [] [] [] :=
  ⟨World.ownsRow_nil _ _ _ _, WantAt.nil _ _ _, World.ownsRow_nil _ _ _ _, Sep.nil _, Sep.nil _, Sep.nil _, h⟩
theorem BK.later (h : BK w W vb vw ve bs l es) (hb : Below W.heap.size W W') : BK w W' vb vw ve bs l es :=
  ⟨own_keep h.b hb, h.wn.map (fun h => own_keep h hb), own_keep h.e hb, h.bw, h.eb, h.ew, h.below.trans (hb.mono h.below.size)⟩
theorem BK.alloc (h : BK w W vb vw ve bs l es) (o : Obj) : BK w (W.alloc o) vb vw ve bs l es := h.later ((Below.refl _ _).alloc (Nat.le_refl _) _)
theorem BK.appB (h : BK w W vb vw ve bs l es) (hown : W'.ownsRow w.heap.size 5 1 v1 bs'.length (nums .u8 bs')) (hg : W.grownBy W' vb.ownBlock) (hat : v1.ownBlock = vb.ownBlock ∨ v1.ownBlock = some W.heap.size) : BK w W' v1 vw ve bs' l es := by
  obtain ⟨vs, hw1, hw2⟩ := h.wn
  exact ⟨hown, ⟨vs, own_other hw1 hg h.bw, hw2⟩, own_other h.e hg h.eb, sep_other hw1 hat h.bw, sep_other h.e hat h.eb, h.ew, h.below.trans (own_grown h.b hg h.below.size)⟩
theorem BK.appW {l' : List (List Int)} (h : BK w W vb vw ve bs l es) (hown : WantAt w W' w.heap.size v1 l') (hg : W.grownBy W' vw.ownBlock) (hat : v1.ownBlock = vw.ownBlock ∨ v1.ownBlock = some W.heap.size) : BK w W' vb v1 ve bs l' es := by
  obtain ⟨vs, hw1, hw2⟩ := h.wn
  exact ⟨own_other h.b hg h.bw.symm, hown, own_other h.e hg h.ew, (sep_other h.b hat h.bw.symm).symm, h.eb, sep_other h.e hat h.ew, h.below.trans (own_grown hw1 hg h.below.size)⟩
theorem BK.appE {es' : List Int} (h : BK w W vb vw ve bs l es) (hown : W'.ownsRow w.heap.size 3 1 v1 es'.length (nums .i64 es')) (hg : W.grownBy W' ve.ownBlock) (hat : v1.ownBlock = ve.ownBlock ∨ v1.ownBlock = some W.heap.size) : BK w W' vb vw v1 bs l es' := by
  obtain ⟨vs, hw1, hw2⟩ := h.wn
  exact ⟨own_other h.b hg h.eb.symm, ⟨vs, own_other hw1 hg h.ew.symm, hw2⟩, hown, h.bw, (sep_other h.b hat h.eb.symm).symm, (sep_other hw1 hat h.ew.symm).symm, h.below.trans (own_grown h.e hg h.below.size)⟩
end
theorem Reads.bytes_flat {rows : List (List Int)} (h : ∀ x ∈ rows, JMath.good (sumF 2) x) (hb : ∀ x ∈ rows, Bytes x) : Bytes (JMath.flat (sumF 2) rows) := by
  induction rows with
  | nil => intro j; simp [JMath.flat]
  | cons x l ih =>
    have hx := h x List.mem_cons_self
    have ihl := ih (fun y hy => h y (List.mem_cons_of_mem _ hy)) (fun y hy => hb y (List.mem_cons_of_mem _ hy))
    rw [JMath.flat_cons]
    have happ : ∀ a b : List Int, Bytes a → Bytes b → Bytes (a ++ b) := fun a b ha hb j => by
      rcases Nat.lt_or_ge j a.length with hj | hj
      · rw [List.getD_eq_getElem?_getD, List.getElem?_append_left hj, ← List.getD_eq_getElem?_getD]; exact ha j
      · rw [List.getD_eq_getElem?_getD, List.getElem?_append_right hj, ← List.getD_eq_getElem?_getD]; exact hb _
    have hle : ∀ n : Int, Bytes (JMath.le4 n) := fun n j => by
      unfold JMath.le4
      match j with
      | 0 => simp; omega
      | 1 => simp; omega
      | 2 => simp; omega
      | 3 => simp; omega
      | j + 4 => simp
    exact happ _ _ (happ _ _ (hle _) (happ _ _ (hle _) (hb x List.mem_cons_self))) ihl
theorem gs_bytes (rows : List (List Int)) (k : Nat) (hb : ∀ j, j < rows.length → Bytes (rows.getD j [])) : ∀ x ∈ gs rows k, Bytes x := by
  intro x hx
  obtain ⟨h1, h2⟩ := List.mem_filter.1 hx
  obtain ⟨j, hj, rfl⟩ := List.mem_iff_getElem.1 (List.mem_of_mem_take h1)
  have h4 := hb j hj
  rwa [List.getD_eq_getElem?_getD, List.getElem?_eq_getElem hj] at h4
end Go.Proofs.Ytkngnoimjpeolaa
