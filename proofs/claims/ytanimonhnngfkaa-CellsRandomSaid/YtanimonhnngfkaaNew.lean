/-
  cells.New, of counters and meters.
-/
import Derived.Test.YtanimonhnngfkaaRepeat
import Derived.BigRegion
set_option linter.unusedVariables false
set_option linter.unusedSimpArgs false
namespace Go.Proofs.Ytanimonhnngfkaa
open Go.RowKit

/-- A declaration of counters or meters. -/
structure Dec where
  kd : Int
  nm : ByteArray
  N : Nat
  Rate : Int
  Burst : Int
def zeroDec : Dec := ⟨0, ⟨#[]⟩, 0, 0, 0⟩
instance : Inhabited Dec := ⟨zeroDec⟩
def Dec.cells (d : Dec) : List Value := [.int .u8 d.kd, .string d.nm, .slice none 0 0, .int .i64 0, .int .i64 (d.N : Int), .int .i64 d.Rate, .int .i64 d.Burst, .slice none 0 0, .slice none 0 0, .slice none 0 0, .string ⟨#[]⟩, .slice none 0 0, .slice none 0 0, .slice none 0 0, .int .i64 0]
def Dec.ok (d : Dec) : Prop := (1 ≤ d.N ∧ d.N ≤ 4096) ∧ ((d.kd = 4) ∨ (d.kd = 5 ∧ 0 ≤ d.Rate ∧ d.Rate ≤ 65535 ∧ 1 ≤ d.Burst ∧ d.Burst ≤ 65535))
/-- The array of a declaration. -/
def Dec.arr (d : Dec) : Arr :=
  if d.kd = 5 then ⟨d.nm, 5, 64, d.Rate, d.Burst, List.replicate d.N ⟨64, 0, d.Burst⟩, List.replicate d.N 0⟩ else ⟨d.nm, 4, 64, 0, 0, List.replicate d.N ⟨64, 0, 0⟩, []⟩
theorem getD_replicate {α : Type} (x z : α) (n j : Nat) (h : j < n) : (List.replicate n x).getD j z = x := by
  rw [List.getD_eq_getElem?_getD, List.getElem?_eq_getElem (by rw [List.length_replicate]; exact h)]
  simp
theorem num64_ok (x : Int) (h0 : 0 ≤ x) (h1 : x ≤ 18446744073709551615) : (⟨64, 0, x⟩ : Num).wf ∧ (⟨64, 0, x⟩ : Num).ok := by
  refine ⟨⟨⟨by show (-9223372036854775808:Int) ≤ 64; omega, by show (64:Int) ≤ 9223372036854775807; omega⟩, ⟨by show (0:Int) ≤ 0; omega, by show (0:Int) ≤ 18446744073709551615; omega⟩, h0, h1⟩, by show (1:Int) ≤ 64; omega, by show (64:Int) ≤ 128; omega, ?_, ?_⟩
  · show (0:Int) = cutHi 64 0
    rfl
  · show x = cutLo 64 x
    unfold cutLo
    rw [if_neg (by omega)]
theorem Dec.arr_ok (d : Dec) (h : d.ok) : d.arr.ok := by
  obtain ⟨⟨h1, h2⟩, h3⟩ := h
  unfold Dec.arr
  rcases h3 with h3 | ⟨h3, r0, r1, b0, b1⟩
  · rw [if_neg (by omega)]
    have hn := num64_ok 0 (by decide) (by decide)
    exact ⟨.inr (.inl rfl), ⟨fun _ => ⟨rfl, rfl, rfl⟩, fun h => by simp at h, fun _ => rfl, fun h => by simp at h⟩, by simp; omega, fun j hj => by
      simp only [List.length_replicate] at hj
      show ((List.replicate d.N (⟨64, 0, 0⟩ : Num)).getD j zeroNum).wf ∧ _
      rw [getD_replicate _ _ _ _ hj]
      exact ⟨hn.1, hn.2, rfl, fun h => by simp at h⟩, fun j hj => by simp at hj⟩
  · rw [if_pos h3]
    have hn := num64_ok d.Burst (by omega) (by omega)
    exact ⟨.inr (.inr rfl), ⟨fun h => absurd rfl h, fun h => by simp at h, fun _ => rfl, fun _ => ⟨r0, r1, b0, b1, by simp⟩⟩, by simp; omega, fun j hj => by
      simp only [List.length_replicate] at hj
      show ((List.replicate d.N (⟨64, 0, d.Burst⟩ : Num)).getD j zeroNum).wf ∧ _
      rw [getD_replicate _ _ _ _ hj]
      exact ⟨hn.1, hn.2, rfl, fun _ => Int.le_refl _⟩, fun j hj => by
      simp only [List.length_replicate] at hj
      show 0 ≤ (List.replicate d.N (0 : Int)).getD j 0
      rw [getD_replicate _ _ _ _ hj]
      omega⟩

theorem infoArr : (Try.prog.info? 38).map (fun i => (i.zero, i.size, i.bytes)) = some (some (.agg #[.string ⟨#[]⟩, .int .u8 0, .int .i64 0, .int .i64 0, .int .i64 0, .slice none 0 0, .slice none 0 0]), 7, 96) := by kernel_rfl
/-- An array's cells: its rows are blocks of the call's own, apart from one. -/
def ArrAt (V : World) (base : Nat) (own : Option Nat) (vs : List Value) (a : Arr) : Prop :=
  ∃ g B, vs = (a.vals (some ⟨g, 0, none⟩) a.cs.length a.cs.length B a.ls.length a.ls.length).toList ∧ base ≤ g ∧ some g ≠ own ∧ V.heap[g]? = some (.cells (numsV a.cs).toArray 45 (0, 0)) ∧
    ((B = none ∧ a.ls.length = 0) ∨ ∃ b, B = some ⟨b, 0, none⟩ ∧ base ≤ b ∧ some b ≠ own ∧ V.heap[b]? = some (.cells (nums .i64 a.ls).toArray 3 (0, 0)))
theorem ArrAt.grown {V V' : World} {base : Nat} {own own' : Option Nat} {vs : List Value} {a : Arr} (h : ArrAt V base own vs a) (hg : V.grownBy V' own) (ho : own' = own ∨ own' = some V.heap.size) : ArrAt V' base own' vs a := by
  obtain ⟨g, B, h1, h2, h3, h4, h5⟩ := h
  have key : ∀ q o, some q ≠ own → V.heap[q]? = some o → some q ≠ own' ∧ V'.heap[q]? = some o := by
    intro q o hq hh
    have hlt := (Array.getElem?_eq_some_iff.1 hh).1
    refine ⟨?_, (hg.block q hlt hq).trans hh⟩
    rcases ho with ho | ho
    · rw [ho]; exact hq
    · rw [ho]; intro e; injection e with e; omega
  have kg := key g _ h3 h4
  refine ⟨g, B, h1, h2, kg.1, kg.2, ?_⟩
  rcases h5 with h5 | ⟨b, b1, b2, b3, b4⟩
  · exact .inl h5
  · have kb := key b _ b3 b4
    exact .inr ⟨b, b1, b2, kb.1, kb.2⟩
theorem ArrAt.below {V V' : World} {base : Nat} {own : Option Nat} {vs : List Value} {a : Arr} (h : ArrAt V base own vs a) (hb : Below V.heap.size V V') : ArrAt V' base own vs a := by
  obtain ⟨g, B, h1, h2, h3, h4, h5⟩ := h
  refine ⟨g, B, h1, h2, h3, (hb.block _ (Array.getElem?_eq_some_iff.1 h4).1).trans h4, ?_⟩
  rcases h5 with h5 | ⟨b, b1, b2, b3, b4⟩
  · exact .inl h5
  · exact .inr ⟨b, b1, b2, b3, (hb.block _ (Array.getElem?_eq_some_iff.1 b4).1).trans b4⟩
def zeroArr : Arr := ⟨⟨#[]⟩, 0, 0, 0, 0, [], []⟩
/-- Arrays in a row of the call's own. -/
def ArrsAt (V : World) (base : Nat) (v : Value) (ars : List Arr) : Prop :=
  ∃ vss : List (List Value), vss.length = ars.length ∧ (∀ j, j < ars.length → ArrAt V base v.ownBlock (vss.getD j []) (ars.getD j zeroArr)) ∧ V.ownsRow base 38 7 v ars.length vss.flatten
theorem ArrsAt.nil (V : World) (base : Nat) : ArrsAt V base (.slice none 0 0) [] := ⟨[], rfl, fun j hj => by simp at hj, World.ownsRow_nil _ _ _ _⟩
theorem ArrsAt.below {V V' : World} {base : Nat} {v : Value} {ars : List Arr} (h : ArrsAt V base v ars) (hb : Below V.heap.size V V') : ArrsAt V' base v ars := by
  obtain ⟨vss, h1, h2, h3⟩ := h
  exact ⟨vss, h1, fun j hj => (h2 j hj).below hb, own_keep h3 hb⟩
theorem getD_app_left {α : Type} (l r : List α) (z : α) (j : Nat) (h : j < l.length) : (l ++ r).getD j z = l.getD j z := by
  rw [List.getD_eq_getElem?_getD, List.getD_eq_getElem?_getD, List.getElem?_append_left h]
theorem ArrsAt.app {V V' : World} {base : Nat} {v v1 : Value} {ars : List Arr} {vss : List (List Value)} {vs : List Value} {a : Arr} (h1 : vss.length = ars.length) (h2 : ∀ j, j < ars.length → ArrAt V base v.ownBlock (vss.getD j []) (ars.getD j zeroArr))
    (hv : ArrAt V base v.ownBlock vs a) (hown : V'.ownsRow base 38 7 v1 (ars.length + 1) (vss.flatten ++ vs)) (hg : V.grownBy V' v.ownBlock) (ho : v1.ownBlock = v.ownBlock ∨ v1.ownBlock = some V.heap.size) : ArrsAt V' base v1 (ars ++ [a]) := by
  refine ⟨vss ++ [vs], by simp [h1], fun j hj => ?_, by simpa using hown⟩
  rcases Nat.lt_or_ge j ars.length with h | h
  · rw [getD_app_left vss [vs] [] j (by omega), getD_app_left ars [a] zeroArr j h]
    exact (h2 j h).grown hg ho
  · obtain rfl : j = ars.length := by simp at hj; omega
    rw [show (vss ++ [vs]).getD ars.length [] = vs by rw [← h1]; simp, show (ars ++ [a]).getD ars.length zeroArr = a by simp]
    exact hv.grown hg ho

theorem readsOne {V : World} {g : Nat} {x : Num} (h : V.heap[g]? = some (.cells #[.int .i64 x.W, .int .u64 x.Hi, .int .u64 x.Lo] 45 (0, 0))) : ReadsNums V (some ⟨g, 0, none⟩) 1 [x] := by
  refine ⟨rfl, by omega, fun _ => ⟨g, 0, rfl, (Array.getElem?_eq_some_iff.1 h).1, fun j hj => ?_⟩⟩
  obtain rfl : j = 0 := by omega
  exact ⟨cellOf h 0, cellOf h 1, cellOf h 2⟩
theorem heapLit (w : World) (cs : Array Value) (t : TypeId) (i : Nat) (h : i = w.heap.size) : (w.alloc (.cells cs t)).heap[i]? = some (.cells cs t (0, 0)) := by
  subst h; exact heap_alloc_new _ _
theorem sizeLit (w : World) (o : Obj) : (w.alloc o).heap.size = w.heap.size + 1 := Array.size_push _
theorem heapOld (w : World) (o o' : Obj) (i : Nat) (h : w.heap[i]? = some o') : (w.alloc o).heap[i]? = some o' := (Below.heap_alloc w o i (Array.getElem?_eq_some_iff.1 h).1).trans h
theorem setOther {w : World} {p : Addr} {v : Value} {i : Nat} {o : Obj} (h : w.heap[i]? = some o) (hne : p.block ≠ i) : (w.setCell p v).heap[i]? = some o := by
  simp [World.setCell, Array.getElem?_modify, h, hne]
theorem readsNums_at {V : World} {g : Nat} {xs : List Num} (h : V.heap[g]? = some (.cells (numsV xs).toArray 45 (0, 0))) (hm : xs.length ≤ 9223372036854775807) : ReadsNums V (some ⟨g, 0, none⟩) xs.length xs := by
  refine ⟨rfl, hm, fun _ => ⟨g, 0, rfl, (Array.getElem?_eq_some_iff.1 h).1, fun j hj => ?_⟩⟩
  obtain ⟨c0, c1, c2⟩ := numsV_get xs j hj
  have k := fun i => cellOf h i
  rw [Nat.zero_add, Nat.zero_add, Nat.zero_add]
  exact ⟨(k _).trans (by rw [List.getElem?_toArray]; exact c0), (k _).trans (by rw [List.getElem?_toArray]; exact c1), (k _).trans (by rw [List.getElem?_toArray]; exact c2)⟩
theorem reads_at {V : World} {g t : Nat} {xs : List Int} (h : V.heap[g]? = some (.cells (nums .i64 xs).toArray t (0, 0))) (hm : xs.length ≤ 9223372036854775807) : Reads V .i64 (some ⟨g, 0, none⟩) xs.length xs := by
  refine ⟨rfl, hm, fun _ => ⟨_, rfl, fun j hj => ?_⟩⟩
  rw [add_plain, cellOf h j]
  simp [nums, hj]
/-- What New knows of a round, ahead of its append. -/
structure NR (w : World) (v : Value) (ars : List Arr) (a : Arr) (p g : Nat) (B : Option Addr) (W : World) : Prop where
  below : Below w.heap.size w W
  row : ArrsAt W w.heap.size v ars
  pos : w.heap.size ≤ p ∧ w.heap.size ≤ g ∧ some g ≠ v.ownBlock
  box : W.heap[p]? = some (.cells (a.vals (some ⟨g, 0, none⟩) a.cs.length a.cs.length B a.ls.length a.ls.length) 63 (0, 0))
  cs : W.heap[g]? = some (.cells (numsV a.cs).toArray 45 (0, 0))
  ls : (B = none ∧ a.ls.length = 0) ∨ ∃ b, B = some ⟨b, 0, none⟩ ∧ w.heap.size ≤ b ∧ some b ≠ v.ownBlock ∧ W.heap[b]? = some (.cells (nums .i64 a.ls).toArray 3 (0, 0))
theorem NR.next {w : World} {v : Value} {ars : List Arr} {a : Arr} {p g : Nat} {B : Option Addr} {W W' : World} (h : NR w v ars a p g B W) (hb : Below W.heap.size W W') : NR w v ars a p g B W' := by
  refine ⟨h.below.trans (hb.mono h.below.size), h.row.below hb, h.pos, (hb.block _ (Array.getElem?_eq_some_iff.1 h.box).1).trans h.box, (hb.block _ (Array.getElem?_eq_some_iff.1 h.cs).1).trans h.cs, ?_⟩
  rcases h.ls with h5 | ⟨b, b1, b2, b3, b4⟩
  · exact .inl h5
  · exact .inr ⟨b, b1, b2, b3, (hb.block _ (Array.getElem?_eq_some_iff.1 b4).1).trans b4⟩
theorem NR.may {w : World} {v : Value} {ars : List Arr} {a : Arr} {p g : Nat} {B : Option Addr} {W : World} (h : NR w v ars a p g B W) (ho : a.ok) : Calls Try.prog 20 #[.pointer (some ⟨p, 0, none⟩)] W fun e w' => e = .returned (.bool true) ∧ Below W.heap.size W w' := by
  have hl := ho.len
  have hml : a.ls.length ≤ 4096 := by
    have := ho.scal
    rcases ho.kd with k | k | k
    · rw [(this.1 (by omega)).2.2]; simp
    · rw [(this.1 (by omega)).2.2]; simp
    · have := (this.2.2.2 k).2.2.2.2; omega
  refine may_ok a ho _ _ _ _ _ _ p W (readsNums_at h.cs (by omega)) ?_ h.box
  rcases h.ls with ⟨rfl, h0⟩ | ⟨b, rfl, b2, b3, b4⟩
  · have : a.ls = [] := List.eq_nil_of_length_eq_zero h0
    rw [this]; exact Reads.nil _ _
  · exact reads_at b4 (by omega)
theorem NR.cells {w : World} {v : Value} {ars : List Arr} {a : Arr} {p g : Nat} {B : Option Addr} {W : World} (h : NR w v ars a p g B W) : (W.cell? ⟨p, 0, none⟩ = some (.string a.nm) ∧ W.cell? ⟨p, 1, none⟩ = some (.int .u8 a.kd) ∧ W.cell? ⟨p, 2, none⟩ = some (.int .i64 a.W)) ∧ W.cell? ⟨p, 3, none⟩ = some (.int .i64 a.Rate) ∧ W.cell? ⟨p, 4, none⟩ = some (.int .i64 a.Burst) ∧ W.cell? ⟨p, 5, none⟩ = some (.slice (some ⟨g, 0, none⟩) a.cs.length a.cs.length) ∧ W.cell? ⟨p, 6, none⟩ = some (.slice B a.ls.length a.ls.length) :=
  ⟨⟨cellOf h.box 0, cellOf h.box 1, cellOf h.box 2⟩, cellOf h.box 3, cellOf h.box 4, cellOf h.box 5, cellOf h.box 6⟩
theorem NR.app {w : World} {v v1 : Value} {ars : List Arr} {a : Arr} {p g : Nat} {B : Option Addr} {W W' : World} {vss : List (List Value)} {vs : List Value} (h : NR w v ars a p g B W) (h1 : vss.length = ars.length) (h2 : ∀ j, j < ars.length → ArrAt W w.heap.size v.ownBlock (vss.getD j []) (ars.getD j zeroArr))
    (hrow : W.ownsRow w.heap.size 38 7 v ars.length vss.flatten)
    (hown : W'.ownsRow w.heap.size 38 7 v1 (ars.length + 1) (vss.flatten ++ vs)) (hvs : vs = (a.vals (some ⟨g, 0, none⟩) a.cs.length a.cs.length B a.ls.length a.ls.length).toList) (hg : W.grownBy W' v.ownBlock) (ho : v1.ownBlock = v.ownBlock ∨ v1.ownBlock = some W.heap.size) :
    ArrsAt W' w.heap.size v1 (ars ++ [a]) ∧ Below w.heap.size w W' := by
  subst hvs
  refine ⟨ArrsAt.app h1 h2 ⟨g, B, rfl, h.pos.2.1, h.pos.2.2, h.cs, h.ls⟩ hown hg ho, h.below.trans (own_grown hrow hg h.below.size)⟩

theorem NR.begin {w wr W0 w1 : World} {v : Value} {ars : List Arr} {a : Arr} {g N : Nat} {B : Option Addr} {cs : Array Value} (hB : Below w.heap.size w wr) (hA : ArrsAt wr w.heap.size v ars) (hbl : Below wr.heap.size wr W0) (hp0 : W0.heap[wr.heap.size + 1]? = some (.cells cs 63 (0, 0))) (hs0 : wr.heap.size + 2 ≤ W0.heap.size)
    (hg0 : W0.heap.size ≤ g) (hg1 : w1.heap[g]? = some (.cells (numsV a.cs).toArray 45 (0, 0))) (hb1 : Below W0.heap.size W0 w1) (hN : a.cs.length = N) (hcs : cs.setIfInBounds 5 (.slice (some ⟨g, 0, none⟩) N N) = a.vals (some ⟨g, 0, none⟩) a.cs.length a.cs.length B a.ls.length a.ls.length)
    (hls : (B = none ∧ a.ls.length = 0) ∨ ∃ b, B = some ⟨b, 0, none⟩ ∧ wr.heap.size ≤ b ∧ b ≠ wr.heap.size + 1 ∧ W0.heap[b]? = some (.cells (nums .i64 a.ls).toArray 3 (0, 0))) :
    NR w v ars a (wr.heap.size + 1) g B (w1.setCell ⟨wr.heap.size + 1, 5, none⟩ (.slice (some ⟨g, 0, none⟩) N N)) := by
  have hp1 := (hb1.block _ (Array.getElem?_eq_some_iff.1 hp0).1).trans hp0
  have hown : ∀ q, v.ownBlock = some q → q < wr.heap.size := by
    obtain ⟨vss, _, _, h3⟩ := hA
    exact fun q hq => (h3.lt q hq).2
  have hw : Below wr.heap.size wr (w1.setCell ⟨wr.heap.size + 1, 5, none⟩ (.slice (some ⟨g, 0, none⟩) N N)) := (hbl.trans (hb1.mono hbl.size)).setCell (by show wr.heap.size ≤ wr.heap.size + 1; omega) _
  have hsz := hB.size
  have hsz2 := hbl.size
  refine ⟨hB.trans (hw.mono hB.size), hA.below hw, ⟨by omega, by omega, fun e => by have := hown g e.symm; omega⟩, (setCell_heap hp1 5 _).trans (by rw [hcs]), setOther hg1 (by show wr.heap.size + 1 ≠ g; omega), ?_⟩
  rcases hls with h5 | ⟨b, b1, b2, b3, b4⟩
  · exact .inl h5
  · exact .inr ⟨b, b1, by omega, fun e => by have := hown b e.symm; omega, setOther ((hb1.block _ (Array.getElem?_eq_some_iff.1 b4).1).trans b4) (by show wr.heap.size + 1 ≠ b; omega)⟩
theorem take_arr (ds : List Dec) (k : Nat) (d : Dec) (h : k < ds.length) (hd : ds.getD k zeroDec = d) : (ds.take (k + 1)).map Dec.arr = (ds.take k).map Dec.arr ++ [d.arr] := by
  rw [List.take_add_one, List.map_append]
  congr 1
  rw [List.getElem?_eq_getElem h]
  rw [List.getD_eq_getElem?_getD, List.getElem?_eq_getElem h] at hd
  simp at hd
  simp [hd]

theorem infoI64 : (Try.prog.info? 3).map (fun i => (i.zero, i.size, i.bytes)) = some (some (.int .i64 0), 1, 8) := by kernel_rfl
theorem madeI64 (m : Nat) : madeCells #[.int .i64 0] (m * 1) = (nums .i64 (List.replicate m 0)).toArray := by
  have : (madeCells #[.int .i64 0] (m * 1)).toList = nums .i64 (List.replicate m 0) := by
    unfold nums
    rw [madeCells, List.map_replicate, Nat.mul_one, Array.toList_map, Array.toList_range, List.eq_replicate_iff]
    refine ⟨by simp, fun b hb => ?_⟩
    obtain ⟨i, _, rfl⟩ := List.mem_map.1 hb
    simp [Nat.mod_one]
  rw [← this]
theorem makeInts (m : Nat) (h : m ≤ 1048576) : ∀ W : World, (Instr.makeSlice 36 (.int .i64 (m : Int)) (.int .i64 (m : Int))).run Try.prog W = .ok (.slice (some ⟨W.heap.size, 0, none⟩) m m) (W.alloc (.cells (nums .i64 (List.replicate m 0)).toArray 3)) := by
  intro W
  obtain ⟨i, hi, hzz⟩ := Option.map_eq_some_iff.1 infoI64
  simp only [Prod.mk.injEq] at hzz
  obtain ⟨hz, hs, hb⟩ := hzz
  have := run_make (P := Try.prog) W 36 3 i _ Try.underlying36 hi hz .i64 .i64 m m (by omega) (by omega) (by rw [hb]; omega) (by omega)
  rw [hs] at this
  rw [this, Int.toNat_natCast, show (Value.int .i64 0).cells = #[.int .i64 0] from rfl, madeI64]

/-- The call of Repeat behind the array's box, the cell and the cell's row. -/
theorem Repeat_four (w : World) (c1 c2 c3 : Array Value) (t1 t2 t3 : TypeId) (x : Num) (N : Nat) (h1 : 1 ≤ N) (h2 : N ≤ 4096) (K : Ending → World → Prop)
    (h : ∀ (W0 : World) (g : Nat) (w1 : World), (W0.heap[w.heap.size + 1]? = some (.cells c2 t2 (0, 0)) ∧ Below w.heap.size w W0 ∧ W0.heap.size = w.heap.size + 4) → W0.heap.size ≤ g → w1.heap[g]? = some (.cells (numsV (List.replicate N x)).toArray 45 (0, 0)) → Below W0.heap.size W0 w1 → K (.returned (.slice (some ⟨g, 0, none⟩) N N)) w1) :
    Calls Try.prog 19 #[.slice (some ⟨w.heap.size + 1 + 1 + 1, 0, none⟩) 1 1, .int .i64 (N : Int)] ((((w.alloc (.cells c1 t1)).alloc (.cells c2 t2)).alloc (.cells c3 t3)).alloc (.cells #[.int .i64 x.W, .int .u64 x.Hi, .int .u64 x.Lo] 45)) K := by
  have s1 := sizeLit w (.cells c1 t1)
  have s2 := sizeLit (w.alloc (.cells c1 t1)) (.cells c2 t2)
  have s3 := sizeLit ((w.alloc (.cells c1 t1)).alloc (.cells c2 t2)) (.cells c3 t3)
  have s4 := sizeLit (((w.alloc (.cells c1 t1)).alloc (.cells c2 t2)).alloc (.cells c3 t3)) (.cells #[.int .i64 x.W, .int .u64 x.Hi, .int .u64 x.Lo] 45)
  have hr := readsOne (heapLit (((w.alloc (.cells c1 t1)).alloc (.cells c2 t2)).alloc (.cells c3 t3)) #[.int .i64 x.W, .int .u64 x.Hi, .int .u64 x.Lo] 45 (w.heap.size + 1 + 1 + 1) (by omega))
  have hp := heapOld _ (.cells #[.int .i64 x.W, .int .u64 x.Hi, .int .u64 x.Lo] 45) _ _ (heapOld _ (.cells c3 t3) _ _ (heapLit (w.alloc (.cells c1 t1)) c2 t2 (w.heap.size + 1) (by omega)))
  have hb : Below w.heap.size w ((((w.alloc (.cells c1 t1)).alloc (.cells c2 t2)).alloc (.cells c3 t3)).alloc (.cells #[.int .i64 x.W, .int .u64 x.Hi, .int .u64 x.Lo] 45)) := ((((Below.refl _ _).alloc (Nat.le_refl _) _).alloc (by omega) _).alloc (by omega) _).alloc (by omega) _
  refine Calls.mono (Repeat_any x _ 1 N h1 h2 _ hr) ?_
  rintro e w1 ⟨g, rfl, hg0, hg1, hb1⟩
  exact h _ g w1 ⟨hp, hb, by omega⟩ hg0 hg1 hb1
theorem Repeat_five (w : World) (c1 c2 c3 c4 : Array Value) (t1 t2 t3 t4 : TypeId) (x : Num) (N : Nat) (h1 : 1 ≤ N) (h2 : N ≤ 4096) (K : Ending → World → Prop)
    (h : ∀ (W0 : World) (g : Nat) (w1 : World), (W0.heap[w.heap.size + 1]? = some (.cells c2 t2 (0, 0)) ∧ Below w.heap.size w W0 ∧ W0.heap.size = w.heap.size + 5 ∧ W0.heap[w.heap.size + 1 + 1 + 1]? = some (.cells c4 t4 (0, 0))) → W0.heap.size ≤ g → w1.heap[g]? = some (.cells (numsV (List.replicate N x)).toArray 45 (0, 0)) → Below W0.heap.size W0 w1 → K (.returned (.slice (some ⟨g, 0, none⟩) N N)) w1) :
    Calls Try.prog 19 #[.slice (some ⟨w.heap.size + 1 + 1 + 1 + 1, 0, none⟩) 1 1, .int .i64 (N : Int)] (((((w.alloc (.cells c1 t1)).alloc (.cells c2 t2)).alloc (.cells c3 t3)).alloc (.cells c4 t4)).alloc (.cells #[.int .i64 x.W, .int .u64 x.Hi, .int .u64 x.Lo] 45)).drew K := by
  have s1 := sizeLit w (.cells c1 t1)
  have s2 := sizeLit (w.alloc (.cells c1 t1)) (.cells c2 t2)
  have s3 := sizeLit ((w.alloc (.cells c1 t1)).alloc (.cells c2 t2)) (.cells c3 t3)
  have s4 := sizeLit (((w.alloc (.cells c1 t1)).alloc (.cells c2 t2)).alloc (.cells c3 t3)) (.cells c4 t4)
  have s5 := sizeLit ((((w.alloc (.cells c1 t1)).alloc (.cells c2 t2)).alloc (.cells c3 t3)).alloc (.cells c4 t4)) (.cells #[.int .i64 x.W, .int .u64 x.Hi, .int .u64 x.Lo] 45)
  have hr := readsOne (heapLit ((((w.alloc (.cells c1 t1)).alloc (.cells c2 t2)).alloc (.cells c3 t3)).alloc (.cells c4 t4)) #[.int .i64 x.W, .int .u64 x.Hi, .int .u64 x.Lo] 45 (w.heap.size + 1 + 1 + 1 + 1) (by omega))
  have hp := heapOld _ (.cells #[.int .i64 x.W, .int .u64 x.Hi, .int .u64 x.Lo] 45) _ _ (heapOld _ (.cells c4 t4) _ _ (heapOld _ (.cells c3 t3) _ _ (heapLit (w.alloc (.cells c1 t1)) c2 t2 (w.heap.size + 1) (by omega))))
  have hq := heapOld _ (.cells #[.int .i64 x.W, .int .u64 x.Hi, .int .u64 x.Lo] 45) _ _ (heapLit (((w.alloc (.cells c1 t1)).alloc (.cells c2 t2)).alloc (.cells c3 t3)) c4 t4 (w.heap.size + 1 + 1 + 1) (by omega))
  have hb : Below w.heap.size w (((((w.alloc (.cells c1 t1)).alloc (.cells c2 t2)).alloc (.cells c3 t3)).alloc (.cells c4 t4)).alloc (.cells #[.int .i64 x.W, .int .u64 x.Hi, .int .u64 x.Lo] 45)).drew := ((((((Below.refl _ _).alloc (Nat.le_refl _) _).alloc (by omega) _).alloc (by omega) _).alloc (by omega) _).alloc (by omega) _).drew
  refine Calls.mono (Repeat_any x _ 1 N h1 h2 _ (hr.below (Below.refl _ _).drew)) ?_
  rintro e w1 ⟨g, rfl, hg0, hg1, hb1⟩
  exact h (((((w.alloc (.cells c1 t1)).alloc (.cells c2 t2)).alloc (.cells c3 t3)).alloc (.cells c4 t4)).alloc (.cells #[.int .i64 x.W, .int .u64 x.Hi, .int .u64 x.Lo] 45)).drew g w1 ⟨hp, hb, s5.trans (by omega), hq⟩ hg0 hg1 hb1
set_option maxRecDepth 100000 in
set_option maxHeartbeats 4000000 in
theorem New_any (ds : List Dec) (q n c : Nat) (w : World) (hl : ds.length = n) (hn : n ≤ 100) (hok : ∀ j, j < n → (ds.getD j zeroDec).ok)
    (hq : ∀ j i, j < n → i < 15 → w.cell? ⟨q, j * 15 + i, none⟩ = (ds.getD j zeroDec).cells[i]? ) (hqb : q < w.heap.size) :
    Calls Try.prog 8 #[.slice (some ⟨q, 0, none⟩) n c] w fun e w' => ∃ v, e = .returned v ∧ ArrsAt w' w.heap.size v (ds.map Dec.arr) ∧ Below w.heap.size w w' := by
  have HQ : Aside (∀ j i, j < n → i < 15 → w.cell? ⟨q, j * 15 + i, none⟩ = (ds.getD j zeroDec).cells[i]?) := hq
  have HO : Aside (∀ j, j < n → (ds.getD j zeroDec).ok) := hok
  have HL : Aside (ds.length = n) := hl
  clear hq hok hl
  go_enter Try.func8, Try.ntmps8
  go_wp2
  go_loopw [2, 9] (fun v i wr => ∃ k : Nat, k ≤ n ∧ i = .int .i64 k ∧ Aside (ArrsAt wr w.heap.size v ((ds.take k).map Dec.arr)) ∧ Below w.heap.size w wr) (fun _ i _ => n - (intOf i).toNat)
  case atStart => exact ⟨0, Nat.zero_le _, rfl, ArrsAt.nil _ _, Below.refl _ _⟩
  case round =>
    obtain ⟨k, hk, rfl, hA, hB⟩ := hrel
    by_cases hlt : k < n
    · have hd := HO.out k hlt
      have hcell : ∀ i v, (ds.getD k zeroDec).cells[i]? = some v → wr.cell? ⟨q, k * 15 + i, none⟩ = some v := fun i v hv => (hB.cell (p := ⟨_, _, _⟩) hqb).trans ((HQ.out k i hlt (List.getElem?_eq_some_iff.1 hv).1).trans hv)
      generalize hdk : ds.getD k zeroDec = dk at *
      have HDK : Aside (ds.getD k zeroDec = dk) := hdk
      clear hdk
      obtain ⟨kd, nm, N, Rate, Burst⟩ := dk
      have q0 := hcell 0 _ rfl
      have q1 := hcell 1 _ rfl
      have q2 := hcell 2 _ rfl
      have q3 := hcell 3 _ rfl
      have q4 := hcell 4 _ rfl
      have q5 := hcell 5 _ rfl
      have q6 := hcell 6 _ rfl
      have q7 := hcell 7 _ rfl
      have q8 := hcell 8 _ rfl
      have q9 := hcell 9 _ rfl
      have q10 := hcell 10 _ rfl
      have q11 := hcell 11 _ rfl
      have q12 := hcell 12 _ rfl
      have q13 := hcell 13 _ rfl
      have q14 := hcell 14 _ rfl
      simp only [Nat.add_zero] at q0 q1 q2 q3 q4 q5 q6 q7 q8 q9 q10 q11 q12 q13 q14
      have hk0 : (0 : Int) ≤ (k : Int) := by omega
      have hk1 : (k : Int) < (n : Int) := by omega
      obtain ⟨⟨n1, n2⟩, hkd⟩ := hd
      simp only at n1 n2 hkd
      have e1 : decide ((N : Int) < 1) = false := decide_eq_false (by omega)
      have e2 : decide (4096 < (N : Int)) = false := decide_eq_false (by omega)
      clear hcell
      rcases hkd with hkd | ⟨hkd, r0, r1, b0, b1⟩
      · subst hkd
        go_wp2_with fail
        refine Repeat_four wr _ _ _ 33 63 45 ⟨64, 0, 0⟩ N n1 n2 _ ?_
        rintro W0 g w1 ⟨hp0, hbl, hs0⟩ hg0 hg1 hb1
        obtain ⟨c0, c1, c2, c3, c4, c5, c6⟩ : (w1.cell? ⟨wr.heap.size + 1, 0, none⟩ = some (.string nm)) ∧ w1.cell? ⟨wr.heap.size + 1, 1, none⟩ = some (.int .u8 4) ∧ w1.cell? ⟨wr.heap.size + 1, 2, none⟩ = some (.int .i64 64) ∧ w1.cell? ⟨wr.heap.size + 1, 3, none⟩ = some (.int .i64 0) ∧ w1.cell? ⟨wr.heap.size + 1, 4, none⟩ = some (.int .i64 0) ∧ w1.cell? ⟨wr.heap.size + 1, 5, none⟩ = some (.slice none 0 0) ∧ w1.cell? ⟨wr.heap.size + 1, 6, none⟩ = some (.slice none 0 0) := by
          have hp1 := (hb1.block _ (Array.getElem?_eq_some_iff.1 hp0).1).trans hp0
          exact ⟨cellOf hp1 0, cellOf hp1 1, cellOf hp1 2, cellOf hp1 3, cellOf hp1 4, cellOf hp1 5, cellOf hp1 6⟩
        have f5 : w1.frozen? ⟨wr.heap.size + 1, 5, none⟩ = false := frozenOf ((hb1.block _ (Array.getElem?_eq_some_iff.1 hp0).1).trans hp0) 5
        have HNR : Aside (NR w u2 ((ds.take k).map Dec.arr) ⟨nm, 4, 64, 0, 0, List.replicate N ⟨64, 0, 0⟩, []⟩ (wr.heap.size + 1) g none (w1.setCell ⟨wr.heap.size + 1, 5, none⟩ (.slice (some ⟨g, 0, none⟩) N N))) := by
          exact NR.begin hB hA.out hbl hp0 (by omega) hg0 hg1 hb1 (by simp) (by simp [Arr.vals]) (.inl ⟨rfl, rfl⟩)
        have HOK : Aside (Arr.ok ⟨nm, 4, 64, 0, 0, List.replicate N ⟨64, 0, 0⟩, []⟩) := by
          have := Dec.arr_ok ⟨4, nm, N, Rate, Burst⟩ ⟨⟨n1, n2⟩, .inl rfl⟩
          exact this
        clear q0 q1 q2 q3 q4 q5 q6 q7 q8 q9 q10 q11 q12 q13 q14 e1 e2 hA hB hbl hp0 hs0 hg0 hg1 hb1
        go_wp2_with fail
        refine Calls.mono (HNR.out.may HOK.out) ?_
        rintro e w3 ⟨rfl, hb3⟩
        have hN3 := HNR.out.next hb3
        clear c0 c1 c2 c3 c4 c5 c6 f5
        obtain ⟨⟨c0, c1, c2⟩, c3, c4, c5, c6⟩ := hN3.cells
        simp only [List.length_replicate, List.length_nil] at c5 c6
        have HN3 : Aside _ := hN3
        clear hN3 hb3 HNR
        obtain ⟨ars, hars⟩ : ∃ ars, ars = (ds.take k).map Dec.arr := ⟨_, rfl⟩
        rw [← hars] at HN3
        have HARS : Aside (ars = (ds.take k).map Dec.arr) := hars
        have hln : ars.length ≤ 100 := by rw [hars, List.length_map]; have := List.length_take_le k ds; omega
        have HLN : Aside (ars.length ≤ 100) := hln
        clear hln
        clear hars
        have hN4 := HN3.out.next ((Below.refl w3.heap.size w3).alloc (Nat.le_refl _) (.cells #[.string nm, .int .u8 4, .int .i64 64, .int .i64 0, .int .i64 0, .slice (some ⟨g, 0, none⟩) N N, .slice none 0 0] 38))
        obtain ⟨vss, hv1, hv2, hv3⟩ := hN4.row
        have HN4 : Aside _ := hN4
        have HV1 : Aside _ := hv1
        have HV2 : Aside _ := hv2
        have HV3 : Aside _ := hv3
        have HC : Aside _ := Cells.lit w3 38 #[.string nm, .int .u8 4, .int .i64 64, .int .i64 0, .int .i64 0, .slice (some ⟨g, 0, none⟩) N N, .slice none 0 0] 1 7 rfl (by simp [Value.oneCell'])
        clear hN4 hv1 hv2 hv3 HN3
        go_wp2_with (at_builtin; refine append_cells w.heap.size rfl _ _ 23 38 (.agg #[.string ⟨#[]⟩, .int .u8 0, .int .i64 0, .int .i64 0, .int .i64 0, .slice none 0 0, .slice none 0 0]) 7 96 rfl Try.underlying23 infoArr rfl (by decide) (by decide) u2 ars.length vss.flatten _ _ 1 1 rfl rfl HV3.out HC.out HN4.out.below.size (by have := HLN.out; omega) ?_; intro v1 w8 hown hg hat; have hN := HN4.out.app HV1.out HV2.out HV3.out hown (by simp [Arr.vals]) hg hat; clear hown hg hat)
        go_roundw
        case rel => 
          refine ⟨k + 1, by omega, by go_num, ?_, hN.2⟩
          rw [take_arr ds k _ (by rw [HL.out]; exact hlt) HDK.out, ← HARS.out]
          exact hN.1
        case measure => (simp [intOf]; omega)
      · subst hkd
        have hwr : IntKind.u64.wrap Burst = Burst := by rw [IntKind.wrap_u64]; omega
        have hmk := makeInts N (by omega)
        have hN0 : (0 : Int) ≤ (N : Int) := by omega
        go_wp2_with fail
        go_region
        go_wp2_with fail
        refine Repeat_five wr _ _ _ _ 33 63 45 3 ⟨64, 0, Burst⟩ N n1 n2 _ ?_
        rintro W0 g w1 ⟨hp0, hbl, hs0, hq0⟩ hg0 hg1 hb1
        obtain ⟨c0, c1, c2, c3, c4, c5, c6⟩ : (w1.cell? ⟨wr.heap.size + 1, 0, none⟩ = some (.string nm)) ∧ w1.cell? ⟨wr.heap.size + 1, 1, none⟩ = some (.int .u8 5) ∧ w1.cell? ⟨wr.heap.size + 1, 2, none⟩ = some (.int .i64 64) ∧ w1.cell? ⟨wr.heap.size + 1, 3, none⟩ = some (.int .i64 Rate) ∧ w1.cell? ⟨wr.heap.size + 1, 4, none⟩ = some (.int .i64 Burst) ∧ w1.cell? ⟨wr.heap.size + 1, 5, none⟩ = some (.slice none 0 0) ∧ w1.cell? ⟨wr.heap.size + 1, 6, none⟩ = some (.slice (some ⟨wr.heap.size + 1 + 1 + 1, 0, none⟩) N N) := by
          have hp1 := (hb1.block _ (Array.getElem?_eq_some_iff.1 hp0).1).trans hp0
          exact ⟨cellOf hp1 0, cellOf hp1 1, cellOf hp1 2, cellOf hp1 3, cellOf hp1 4, cellOf hp1 5, cellOf hp1 6⟩
        have f5 : w1.frozen? ⟨wr.heap.size + 1, 5, none⟩ = false := frozenOf ((hb1.block _ (Array.getElem?_eq_some_iff.1 hp0).1).trans hp0) 5
        have HNR : Aside (NR w u2 ((ds.take k).map Dec.arr) ⟨nm, 5, 64, Rate, Burst, List.replicate N ⟨64, 0, Burst⟩, List.replicate N 0⟩ (wr.heap.size + 1) g (some ⟨wr.heap.size + 1 + 1 + 1, 0, none⟩) (w1.setCell ⟨wr.heap.size + 1, 5, none⟩ (.slice (some ⟨g, 0, none⟩) N N))) := by
          exact NR.begin hB hA.out hbl hp0 (by omega) hg0 hg1 hb1 (by simp) (by simp [Arr.vals]) (.inr ⟨_, rfl, by omega, by omega, hq0⟩)
        have HOK : Aside (Arr.ok ⟨nm, 5, 64, Rate, Burst, List.replicate N ⟨64, 0, Burst⟩, List.replicate N 0⟩) := by
          have := Dec.arr_ok ⟨5, nm, N, Rate, Burst⟩ ⟨⟨n1, n2⟩, .inr ⟨rfl, r0, r1, b0, b1⟩⟩
          exact this
        clear q0 q1 q2 q3 q4 q5 q6 q7 q8 q9 q10 q11 q12 q13 q14 e1 e2 hA hB hbl hp0 hs0 hq0 hwr hmk hg0 hg1 hb1
        go_wp2_with fail
        refine Calls.mono (HNR.out.may HOK.out) ?_
        rintro e w3 ⟨rfl, hb3⟩
        have hN3 := HNR.out.next hb3
        clear c0 c1 c2 c3 c4 c5 c6 f5
        obtain ⟨⟨c0, c1, c2⟩, c3, c4, c5, c6⟩ := hN3.cells
        simp only [List.length_replicate, List.length_nil] at c5 c6
        have HN3 : Aside _ := hN3
        clear hN3 hb3 HNR
        obtain ⟨ars, hars⟩ : ∃ ars, ars = (ds.take k).map Dec.arr := ⟨_, rfl⟩
        rw [← hars] at HN3
        have HARS : Aside (ars = (ds.take k).map Dec.arr) := hars
        have hln : ars.length ≤ 100 := by rw [hars, List.length_map]; have := List.length_take_le k ds; omega
        have HLN : Aside (ars.length ≤ 100) := hln
        clear hln
        clear hars
        have hN4 := HN3.out.next ((Below.refl w3.heap.size w3).alloc (Nat.le_refl _) (.cells #[.string nm, .int .u8 5, .int .i64 64, .int .i64 Rate, .int .i64 Burst, .slice (some ⟨g, 0, none⟩) N N, .slice (some ⟨wr.heap.size + 1 + 1 + 1, 0, none⟩) N N] 38))
        obtain ⟨vss, hv1, hv2, hv3⟩ := hN4.row
        have HN4 : Aside _ := hN4
        have HV1 : Aside _ := hv1
        have HV2 : Aside _ := hv2
        have HV3 : Aside _ := hv3
        have HC : Aside _ := Cells.lit w3 38 #[.string nm, .int .u8 5, .int .i64 64, .int .i64 Rate, .int .i64 Burst, .slice (some ⟨g, 0, none⟩) N N, .slice (some ⟨wr.heap.size + 1 + 1 + 1, 0, none⟩) N N] 1 7 rfl (by simp [Value.oneCell'])
        clear hN4 hv1 hv2 hv3 HN3
        go_wp2_with (at_builtin; refine append_cells w.heap.size rfl _ _ 23 38 (.agg #[.string ⟨#[]⟩, .int .u8 0, .int .i64 0, .int .i64 0, .int .i64 0, .slice none 0 0, .slice none 0 0]) 7 96 rfl Try.underlying23 infoArr rfl (by decide) (by decide) u2 ars.length vss.flatten _ _ 1 1 rfl rfl HV3.out HC.out HN4.out.below.size (by have := HLN.out; omega) ?_; intro v1 w8 hown hg hat; have hN := HN4.out.app HV1.out HV2.out HV3.out hown (by simp [Arr.vals]) hg hat; clear hown hg hat)
        go_roundw
        case rel => 
          refine ⟨k + 1, by omega, by go_num, ?_, hN.2⟩
          rw [take_arr ds k _ (by rw [HL.out]; exact hlt) HDK.out, ← HARS.out]
          exact hN.1
        case measure => (simp [intOf]; omega)
    · obtain rfl : k = n := by omega
      go_wp2
      go_ret
      refine ⟨u2, rfl, ?_, hB⟩
      have h := hA.out
      rwa [List.take_of_length_le (by rw [HL.out]; omega)] at h
end Go.Proofs.Ytanimonhnngfkaa
