/-
  The law's alive().
-/
import Derived.Test.YtipeeacplhgihaaPutOk
import Derived.Test.YtipeeacplhgihaaSame
set_option linter.unusedVariables false
set_option linter.unusedSimpArgs false
namespace Go.Proofs.Ytipeeacplhgihaa
open Go.RowKit PkMath

theorem num_any (x y : Int) (w : World) : Calls Try.prog 15 #[.int .i64 x, .int .u64 y] w fun e w' => e = .returned (bitsV x 0 y) ∧ Below w.heap.size w w' := by
  go_enter Try.func15, Try.ntmps15
  go_wp2
  refine bodyPost_ret (results_cell_row rfl _ _ w.heap.size 33 _ (0,0) _ rfl (heap_alloc_new ..) Try.underlying33 rfl (by kernel_rfl)) rfl ⟨rfl, (Below.refl _ _).alloc (Nat.le_refl _) _⟩

theorem reads_lit (w : World) (k : IntKind) (e : TypeId) (xs : List Int) (cs : Array Value) (fr : Nat × Nat) (hc : cs = (nums k xs).toArray) (hl : xs.length ≤ 9223372036854775807) : Reads (w.alloc (.cells cs e fr)) k (some ⟨w.heap.size, 0, none⟩) xs.length xs := by
  subst hc
  refine ⟨rfl, hl, fun _ => ⟨_, rfl, fun j hj => ?_⟩⟩
  rw [add_plain]
  have e1 : (w.alloc (.cells (nums k xs).toArray e fr)).cell? ⟨w.heap.size, j, none⟩ = (nums k xs).toArray[j]? := by
    have key : ∀ (W : World) (g : Nat) (cs : Array Value), W.heap[g]? = some (.cells cs e fr) → W.cell? ⟨g, j, none⟩ = cs[j]? := fun W g cs h => by simp [World.cell?, h]
    exact key _ _ _ (heap_alloc_new w (.cells (nums k xs).toArray e fr))
  rw [e1]
  simp [nums, List.getElem?_eq_getElem hj]

theorem reads_lit2 (w : World) (g : Nat) (k : IntKind) (e : TypeId) (xs : List Int) (cs : Array Value) (fr : Nat × Nat) (hg : g = w.heap.size) (hc : cs = (nums k xs).toArray) (hl : xs.length ≤ 9223372036854775807) : Reads (w.alloc (.cells cs e fr)) k (some ⟨g, 0, none⟩) xs.length xs := by
  subst hg
  exact reads_lit w k e xs cs fr hc hl
theorem size_alloc_drewN (w : World) (o : Obj) (q : Nat) : w.heap.size + 1 = ((w.alloc o).drewN q).heap.size := by
  show _ = (w.alloc o).heap.size
  simp
theorem size_drewN (w : World) (q : Nat) : w.heap.size = (w.drewN q).heap.size := rfl
theorem own_base {w : World} {b b' n : Nat} {e : TypeId} {size : Nat} {v : Value} {xs : List Value} (h : w.ownsRow b e size v n xs) (hb : b' ≤ b) : w.ownsRow b' e size v n xs := by
  refine ⟨h.1, h.2.elim .inl ?_⟩
  rintro ⟨g, cap, cur, h1, h2, r⟩
  exact .inr ⟨g, cap, cur, h1, Nat.le_trans hb h2, r⟩
theorem CurAt.base {b b' : Nat} {w : World} {g : Nat} {zs : List Int} {a : Nat} (h : CurAt b w g zs a) (hb : b' ≤ b) : CurAt b' w g zs a := by
  obtain ⟨h1, h2, h3, A, c, h4, h5, h6⟩ := h
  exact ⟨Nat.le_trans hb h1, h2, h3, A, c, h4, own_base h5 hb, h6⟩
/-- The cursor of alive, and what lies beside it. -/
structure AL (w : World) (g a : Nat) (W : World) : Prop where
  cur : CurAt w.heap.size W g [165, 15, 60] a
  below : Below w.heap.size w W
theorem AL.next {w : World} {g a : Nat} {W W' : World} (h : AL w g a W) (hb : Below W.heap.size W W') : AL w g a W' := ⟨h.cur.below hb, h.below.trans (hb.mono h.below.size)⟩
theorem AL.alloc {w : World} {g a : Nat} {W : World} (h : AL w g a W) (o : Obj) : AL w g a (W.alloc o) := h.next ((Below.refl _ _).alloc (Nat.le_refl _) _)
theorem AL.foot {w : World} {g a b : Nat} {W W' : World} (h : AL w g a W) (hc : CurAt w.heap.size W' g [165, 15, 60] b) (hf : Foot (fun k => k = g) W W') : AL w g b W' :=
  ⟨hc, h.below.trans (hf.below (fun i hi => by subst hi; exact h.cur.1) h.below.size)⟩

structure AM (w : World) (g gx gy : Nat) (W : World) : Prop where
  al : AL w g 12 W
  x : W.heap[gx]? = some (.cells #[.int .i64 4, .int .u64 0, .int .u64 10] 33 (0, 0))
  y : W.heap[gy]? = some (.cells #[.int .i64 8, .int .u64 0, .int .u64 80] 33 (0, 0))
theorem AM.next {w : World} {g gx gy : Nat} {W W' : World} (h : AM w g gx gy W) (hb : Below W.heap.size W W') : AM w g gx gy W' :=
  ⟨h.al.next hb, (hb.block gx (Array.getElem?_eq_some_iff.1 h.x).1).trans h.x, (hb.block gy (Array.getElem?_eq_some_iff.1 h.y).1).trans h.y⟩
theorem AM.alloc {w : World} {g gx gy : Nat} {W : World} (h : AM w g gx gy W) (o : Obj) : AM w g gx gy (W.alloc o) := h.next ((Below.refl _ _).alloc (Nat.le_refl _) _)
theorem nums_lit (w : World) : ReadsNums (w.alloc (.cells #[.int .i64 4, .int .u64 0, .int .u64 10, .int .i64 8, .int .u64 0, .int .u64 80] 33)) (some ⟨w.heap.size, 0, none⟩) 2 [⟨4, 0, 10⟩, ⟨8, 0, 80⟩] := by
  have h := heap_alloc_new w (.cells #[.int .i64 4, .int .u64 0, .int .u64 10, .int .i64 8, .int .u64 0, .int .u64 80] 33)
  refine ⟨rfl, by omega, fun _ => ⟨_, _, rfl, by simp, fun j hj => ?_⟩⟩
  have e := fun i => cellOf h i
  match j, hj with
  | 0, _ => exact ⟨(e 0).trans rfl, (e 1).trans rfl, (e 2).trans rfl⟩
  | 1, _ => exact ⟨(e 3).trans rfl, (e 4).trans rfl, (e 5).trans rfl⟩

theorem same_lit (A : Option Addr) (n c d p : Nat) (xs : List Int) (cs : Array Value) (V : World) (HA : Reads (V.alloc (.cells cs 5)) .u8 A n xs) (hcs : cs = (nums .u8 xs).toArray) (hp : p = V.heap.size) :
    Calls Try.prog 13 #[.slice A n c, .slice (some ⟨p, 0, none⟩) n d] (V.alloc (.cells cs 5)) fun e w' => e = .returned (.bool true) ∧ ∃ q, w' = (V.alloc (.cells cs 5)).drewN q := by
  have hl := HA.2.1
  have hx : xs.length = n := HA.1
  subst hx
  have := same_bytes A (some ⟨p, 0, none⟩) xs.length c xs.length d xs xs _ HA (reads_lit2 V p .u8 5 xs cs (0, 0) hp hcs hl)
  rwa [decide_eq_true rfl] at this
theorem lit60 : (#[.int .u8 60] : Array Value) = (nums .u8 [60]).toArray := rfl
theorem lit165 : (#[.int .u8 165, .int .u8 0] : Array Value) = (nums .u8 [165, 0]).toArray := rfl
theorem Rest_lit {base : Nat} {g : Nat} {zs : List Int} {a : Nat} (V : World) (h : CurAt base (V.alloc (.cells #[.int .u8 60] 5)) g zs a) :
    Calls Try.prog 12 #[.pointer (some ⟨g, 0, none⟩)] (V.alloc (.cells #[.int .u8 60] 5)) fun e w' => ∃ v, e = .returned v ∧ w'.ownsRow (V.alloc (.cells #[.int .u8 60] 5)).heap.size 5 1 v (zs.length - (a + 7) / 8) (nums .u8 (zs.drop ((a + 7) / 8))) ∧ Below (V.alloc (.cells #[.int .u8 60] 5)).heap.size (V.alloc (.cells #[.int .u8 60] 5)) w' ∧ Reads w' .u8 (some ⟨V.heap.size, 0, none⟩) 1 [60] :=
  (Rest_any h).mono fun e w' ⟨v, h1, h2, h3⟩ => ⟨v, h1, h2, h3, (reads_lit V .u8 5 [60] _ (0, 0) lit60 (by decide)).below h3⟩
theorem same_two (A C : Option Addr) (n c d : Nat) (xs : List Int) (V : World) (HA : Reads V .u8 A n xs) (HC : Reads V .u8 C n xs) :
    Calls Try.prog 13 #[.slice A n c, .slice C n d] V fun e w' => e = .returned (.bool true) ∧ ∃ q, w' = V.drewN q := by
  have := same_bytes A C n c n d xs xs V HA HC
  rwa [decide_eq_true rfl] at this
structure AR (w : World) (g gx gy : Nat) (B : Option Addr) (W : World) : Prop where
  am : AM w g gx gy W
  rd : Reads W .u8 B 2 [165, 0]
/-- All that the last test of alive looks at. -/
theorem AR.all {w : World} {g gx gy : Nat} {B : Option Addr} {W : World} (h : AR w g gx gy B W) :
    (((W.cell? ⟨gx, 0, none⟩ = some (.int .i64 4) ∧ W.cell? ⟨gx, 1, none⟩ = some (.int .u64 0) ∧ W.cell? ⟨gx, 2, none⟩ = some (.int .u64 10)) ∧
      (W.cell? ⟨gy, 0, none⟩ = some (.int .i64 8) ∧ W.cell? ⟨gy, 1, none⟩ = some (.int .u64 0) ∧ W.cell? ⟨gy, 2, none⟩ = some (.int .u64 80))) ∧ AR w g gx gy B W) :=
  ⟨⟨⟨cellOf h.am.x 0, cellOf h.am.x 1, cellOf h.am.x 2⟩, cellOf h.am.y 0, cellOf h.am.y 1, cellOf h.am.y 2⟩, h⟩
theorem AR.rdOf (w : World) (g gx gy : Nat) (B : Option Addr) {W : World} (h : (((W.cell? ⟨gx, 0, none⟩ = some (.int .i64 4) ∧ W.cell? ⟨gx, 1, none⟩ = some (.int .u64 0) ∧ W.cell? ⟨gx, 2, none⟩ = some (.int .u64 10)) ∧ (W.cell? ⟨gy, 0, none⟩ = some (.int .i64 8) ∧ W.cell? ⟨gy, 1, none⟩ = some (.int .u64 0) ∧ W.cell? ⟨gy, 2, none⟩ = some (.int .u64 80))) ∧ AR w g gx gy B W)) : Reads W .u8 B 2 [165, 0] := h.2.rd
theorem AR.curOf (w : World) (g gx gy : Nat) (B : Option Addr) {W : World} (h : (((W.cell? ⟨gx, 0, none⟩ = some (.int .i64 4) ∧ W.cell? ⟨gx, 1, none⟩ = some (.int .u64 0) ∧ W.cell? ⟨gx, 2, none⟩ = some (.int .u64 10)) ∧ (W.cell? ⟨gy, 0, none⟩ = some (.int .i64 8) ∧ W.cell? ⟨gy, 1, none⟩ = some (.int .u64 0) ∧ W.cell? ⟨gy, 2, none⟩ = some (.int .u64 80))) ∧ AR w g gx gy B W)) : CurAt w.heap.size W g [165, 15, 60] 12 := h.2.am.al.cur
theorem AR.next {w : World} {g gx gy : Nat} {B : Option Addr} {W W' : World} (h : AR w g gx gy B W) (hb : Below W.heap.size W W') : AR w g gx gy B W' := ⟨h.am.next hb, h.rd.below hb⟩

set_option maxRecDepth 100000 in
set_option maxHeartbeats 4000000 in
theorem alive_any (w : World) : Calls Try.prog 6 #[] w fun e w' => e = .returned (.bool true) ∧ Below w.heap.size w w' := by
  go_enter Try.func6, Try.ntmps6
  go_wp2_with fail
  refine (New_any _ _ _ [165, 15, 60] _ (reads_lit _ .u8 5 [165, 15, 60] _ _ rfl (by decide)) (by decide)).mono ?_
  rintro e w1 ⟨g, rfl, h1, hb1⟩
  have a1 : AL w g 0 w1 := ⟨h1.base (by simp), ((Below.refl _ _).alloc (Nat.le_refl _) _).trans (hb1.mono (by simp))⟩
  clear h1 hb1
  have hby : ∀ j, 0 ≤ ([165, 15, 60] : List Int).getD j 0 ∧ ([165, 15, 60] : List Int).getD j 0 ≤ 255 := by
    intro j
    match j with
    | 0 => decide
    | 1 => decide
    | 2 => decide
    | j + 3 => exact ⟨by simp, by simp⟩
  have HBY : Aside (∀ j, 0 ≤ ([165, 15, 60] : List Int).getD j 0 ∧ ([165, 15, 60] : List Int).getD j 0 ≤ 255) := hby
  clear hby
  have v1 : bitsV (4 : Nat) (hiOf (numOf (win (bitsL [165, 15, 60]) 0 4))) (loOf (numOf (win (bitsL [165, 15, 60]) 0 4))) = .agg #[.int .i64 4, .int .u64 0, .int .u64 10] := by kernel_rfl
  have v2 : bitsV (8 : Nat) (hiOf (numOf (win (bitsL [165, 15, 60]) 4 8))) (loOf (numOf (win (bitsL [165, 15, 60]) 4 8))) = .agg #[.int .i64 8, .int .u64 0, .int .u64 80] := by kernel_rfl
  have V1 : Aside _ := v1
  have V2 : Aside _ := v2
  clear v1 v2
  go_wp2_with fail
  refine (Take_ok HBY.out a1.cur 4 (by decide) (by decide) (by decide)).mono ?_
  rintro e w2 ⟨rfl, c2, f2⟩
  have a2 : AL w g 4 w2 := a1.foot c2 f2
  rw [V1.out]
  clear a1 c2 f2
  go_wp2_with fail
  have x2 := heap_alloc_new w2 (.cells #[.int .i64 4, .int .u64 0, .int .u64 10] 33)
  refine (Take_ok HBY.out (a2.alloc _).cur 8 (by decide) (by decide) (by decide)).mono ?_
  rintro e w3 ⟨rfl, c3, f3⟩
  have a3 : AL w g 12 w3 := (a2.alloc _).foot c3 f3
  have hgx : g < w2.heap.size := a2.cur.lt
  have x3 := f3.blk x2 (by show ¬ w2.heap.size = g; omega)
  rw [V2.out]
  generalize w2.heap.size = gx at *
  clear a2 c3 f3 x2
  go_wp2_with fail
  have m3 : AM w g gx w3.heap.size (w3.alloc (.cells #[.int .i64 8, .int .u64 0, .int .u64 80] 33)) :=
    ⟨a3.alloc _, (Below.heap_alloc _ _ _ (Array.getElem?_eq_some_iff.1 x3).1).trans x3, heap_alloc_new _ _⟩
  generalize w3.heap.size = gy at *
  refine (Take_short m3.al.cur 13 (by decide) (by decide) (by decide)).mono ?_
  rintro e w4 ⟨rfl, b4⟩
  have m4 := m3.next b4
  unfold bitsV
  clear m3 b4 a3 x3
  go_wp2_with fail
  refine (num_any 4 10 _).mono ?_
  rintro e w5 ⟨rfl, b5⟩
  unfold bitsV
  have m5 := (m4.alloc _).next b5
  clear b5 m4
  go_wp2_with fail
  refine (num_any 8 80 _).mono ?_
  rintro e w6 ⟨rfl, b6⟩
  unfold bitsV
  have m6 := m5.next b6
  clear b6 m5
  go_wp2_with fail
  have hN : ∀ j, j < 2 → (([⟨4, 0, 10⟩, ⟨8, 0, 80⟩] : List Num).getD j zeroNum).wf ∧ (([⟨4, 0, 10⟩, ⟨8, 0, 80⟩] : List Num).getD j zeroNum).ok := by
    intro j hj
    match j, hj with
    | 0, _ => exact ⟨by unfold Num.wf; decide, by unfold Num.ok; decide⟩
    | 1, _ => exact ⟨by unfold Num.wf; decide, by unfold Num.ok; decide⟩
  have hP : pack (allBits [⟨4, 0, 10⟩, ⟨8, 0, 80⟩]) (((allBits [⟨4, 0, 10⟩, ⟨8, 0, 80⟩]).length + 7) / 8) = [165, 0] ∧ ((allBits [⟨4, 0, 10⟩, ⟨8, 0, 80⟩]).length + 7) / 8 = 2 := by decide
  refine (Put_ok _ 2 _ [⟨4, 0, 10⟩, ⟨8, 0, 80⟩] _ (nums_lit w6) (by decide) (fun j hj => (hN j hj).1) (fun j hj => (hN j hj).2) (by decide)).mono ?_
  rintro e w7 ⟨v, rfl, hown, b7⟩
  rw [hP.1, hP.2] at hown
  have m7 := (m6.alloc _).next b7
  obtain ⟨B, L, d, rfl, HL⟩ := own_form hown
  obtain rfl : L = 2 := HL.out
  have HR7 : Aside (Reads w7 .u8 B 2 [165, 0]) := own_rd' hown
  clear hN hP b7 m6 hown HL
  have r7 : AR w g gx gy B w7.drew := AR.next ⟨m7, HR7.out⟩ (Below.refl _ _).drew
  have s7 := r7.all
  have HL6 : Aside (8 * (([165, 15, 60] : List Int).length : Int) - (12 : Nat) = 12) := rfl
  clear m7 HR7
  go_wp2_with fail
  go_region_held3 (fun W => (((W.cell? ⟨gx, 0, none⟩ = some (.int .i64 4) ∧ W.cell? ⟨gx, 1, none⟩ = some (.int .u64 0) ∧ W.cell? ⟨gx, 2, none⟩ = some (.int .u64 10)) ∧
      (W.cell? ⟨gy, 0, none⟩ = some (.int .i64 8) ∧ W.cell? ⟨gy, 1, none⟩ = some (.int .u64 0) ∧ W.cell? ⟨gy, 2, none⟩ = some (.int .u64 80))) ∧ AR w g gx gy B W))
    (first | exact s7 | assumption | exact AR.all (AR.next (And.right (by assumption)) hb5) | exact AR.all (AR.next (And.right (by assumption)) (below_drewN (Below.refl _ _) _)) | exact AR.all (AR.next (And.right (by assumption)) ((Below.refl _ _).alloc (Nat.le_refl _) _)))
    ((go_simp; (first
      | (go_at_call 15; refine (num_any _ _ _).mono ?_; rintro e w5 ⟨rfl, hb5⟩; unfold bitsV)
      | (go_at_call 10; refine Calls.mono (At_any (AR.curOf w g gx gy B ?_)) ?_; (· assumption); rintro e w5 ⟨rfl, rfl⟩)
      | (go_at_call 11; refine Calls.mono (Left_any (AR.curOf w g gx gy B ?_)) ?_; (· assumption); rintro e w5 ⟨rfl, q, rfl⟩; rw [HL6.out])
      | (go_at_call 12; (with_reducible refine Calls.mono (Rest_lit _ (AR.curOf w g gx gy B ?_)) ?_); (· assumption); rintro e w5 ⟨v, rfl, hown, hb5, hq5⟩; obtain ⟨A5, L5, d5, hv5, HL5⟩ := own_form hown; subst hv5; have hl5 : L5 = 1 := HL5.out; subst hl5; have HR5 : Aside (Reads w5 .u8 A5 1 [60]) := own_rd' hown; clear hown HL5; have HQ5 : Aside (Reads w5 .u8 (some ⟨_, 0, none⟩) 1 [60]) := hq5; clear hq5)
      | (go_at_call 12; refine Calls.mono (Rest_any (AR.curOf w g gx gy B ?_)) ?_; (· assumption); rintro e w5 ⟨v, rfl, hown, hb5⟩; obtain ⟨A5, L5, d5, hv5, HL5⟩ := own_form hown; subst hv5; have hl5 : L5 = 1 := HL5.out; subst hl5; have HR5 : Aside (Reads w5 .u8 A5 1 [60]) := own_rd' hown; clear hown HL5)
      | (go_at_call 13; have hq5 := HQ5.out; clear HQ5; have hr5 := HR5.out; clear HR5; (refine Calls.mono (same_two A5 _ 1 d5 1 [60] w5 hr5 hq5) ?_); clear hr5 hq5; rintro e w5 ⟨rfl, q, rfl⟩)
      | (go_at_call 13; have hr5 := HR5.out.below ((Below.refl _ _).alloc (Nat.le_refl _) (.cells #[.int .u8 60] 5)); clear HR5; (with_reducible refine Calls.mono (same_lit A5 1 d5 1 _ [60] #[.int .u8 60] w5 hr5 lit60 rfl) ?_); clear hr5; rintro e w5 ⟨rfl, q, rfl⟩)
      | (go_at_call 13; (with_reducible refine Calls.mono (same_lit B 2 d 2 _ [165, 0] _ _ (AR.rdOf w g gx gy B ?_) lit165 (size_alloc_drewN _ _ _)) ?_); (· assumption); rintro e w5 ⟨rfl, q, rfl⟩)
      | (go_at_call 13; (with_reducible refine Calls.mono (same_lit B 2 d 2 _ [165, 0] _ _ (AR.rdOf w g gx gy B ?_) lit165 (size_drewN _ _)) ?_); (· assumption); rintro e w5 ⟨rfl, q, rfl⟩)
      | fail)))
  all_goals
    go_wp2
    go_ret
    rename_i hh
    exact ⟨rfl, hh.2.am.al.below⟩
end Go.Proofs.Ytipeeacplhgihaa
