/-
  The document's disk: the contracts, all cases in one; and a disk that is not there.
-/
import Derived.Test.YtmoakgkoahjijaaGreatDoorR1
set_option linter.unusedVariables false
set_option linter.unusedSimpArgs false
set_option maxRecDepth 100000
namespace Go.Proofs.YtmoakgkoahjijaaGreatDoor
open Go.RowKit SumsMath

section
variable {G : Nat → Prop} {w w1 : World} {g : Nat} {room : Int} {s : DSt} {xs ys : List Int} {A : Option Addr} {m c : Nat}
theorem R_append (h : RAt G w g room s) (hi : Inv room s) (HR : Reads w .u8 A m ys) (hmc : m ≤ c) :
    Calls Tryz.prog 35 #[.pointer (some ⟨g, 0, none⟩), .slice A m c] w fun e w' => e = .returned (.int .i64 (apF room s ys).1) ∧ RTo G w w' g room (apF room s ys).2 := by
  obtain ⟨bs, off, fl⟩ := s
  have hm : ys.length = m := HR.1
  have hl := hi.hl
  have h1 := hi.h1
  have h2 := hi.h2
  have hnf := hi.hf
  simp only at hl hnf
  have h' := h
  obtain ⟨hg, hF, v, set, n, hb, hown, hv, hfl⟩ := h'
  unfold apF
  cases off with
  | true => exact (rappend_off g w (cellOf hb 2)).mono fun e w' ⟨he, hw⟩ => ⟨he, RTo.same h (hw ▸ Below.refl _ _)⟩
  | false =>
    simp only [Bool.false_eq_true, if_false]
    rw [hm]
    by_cases hr : room - (bs.length : Int) < (m : Int)
    · rw [if_pos hr]
      obtain ⟨D, d, rfl, hnd, HD⟩ := own_reads hown
      exact (rappend_full g room D bs.length d A m c w (cellOf hb 0) (cellOf hb 1) (cellOf hb 2) (by omega) h2 (by omega) HR.2.1 hr).mono fun e w' ⟨he, q, hw⟩ => ⟨he, RTo.same h (hw ▸ below_drewN (Below.refl _ _) q)⟩
    · rw [if_neg hr]
      rcases hfl with ⟨e1, e2⟩ | ⟨e1, e2⟩
      · simp only at e1
        subst e1 e2
        refine (rappend_ok g room v n bs ys A m c w hb hown HR (fun k hk => (hv k hk).2) (by omega) h2 (by omega)).mono ?_
        rintro e w' ⟨rfl, v1, w1, hown1, hgr, hat, rfl⟩
        obtain ⟨p1, p2, p3, p4⟩ := put_ref hg hF hb hv hown1 hgr hat
        refine ⟨rfl, p1, fun k => G k ∨ (w.heap.size ≤ k ∧ k < (w1.setCell ⟨g, 1, none⟩ v1).heap.size), ?_, .inl hg, ?_, v1, _, _, p2, p3, p4, .inl ⟨rfl, rfl⟩⟩
        · rintro k (hk | hk)
          · exact .inl hk
          · exact .inr hk.1
        · rintro k (hk | hk)
          · exact Nat.lt_of_lt_of_le (hF k hk) p1.size
          · exact hk.2
      · simp only at e1
        subst e1 e2
        refine (rappend_fail g room v n bs ys _ A m c w hb hown HR hmc (fun k hk => (hv k hk).2) (hnf n rfl) rfl (by omega) h2 (by omega)).mono ?_
        rintro e w' ⟨rfl, v1, w1, hown1, hgr, hat, rfl⟩
        obtain ⟨p1, p2, p3, p4⟩ := put_ref hg hF hb hv hown1 hgr hat
        have hsz : (((w1.setCell ⟨g, 1, none⟩ v1).setCell ⟨g, 2, none⟩ (.bool true)).setCell ⟨g, 3, none⟩ (.bool false)).heap.size = (w1.setCell ⟨g, 1, none⟩ v1).heap.size := by simp [World.setCell]
        refine ⟨rfl, (p1.setCell (.inl hg) _).setCell (.inl hg) _, fun k => G k ∨ (w.heap.size ≤ k ∧ k < (w1.setCell ⟨g, 1, none⟩ v1).heap.size), ?_, .inl hg, ?_, v1, _, _, by rw [blk_set (blk_set p2 2 _) 3 _]; rfl, own_set (own_set p3 (fun e => (p4 g e).2 rfl) _) (fun e => (p4 g e).2 rfl) _, p4, .inl ⟨rfl, rfl⟩⟩
        · rintro k (hk | hk)
          · exact .inl hk
          · exact .inr hk.1
        · rw [hsz]
          rintro k (hk | hk)
          · exact Nat.lt_of_lt_of_le (hF k hk) p1.size
          · exact hk.2
theorem rfail_off (g : Nat) (n : Int) (w : World) (h2 : w.cell? ⟨g, 2, none⟩ = some (.bool true)) :
    Calls Tryz.prog 31 #[.pointer (some ⟨g, 0, none⟩), .int .i64 n] w fun e w' => e = .returned (.int .i64 13) ∧ w = w' := by
  go_enter Tryz.func31, Tryz.ntmps31
  go_wp2
  go_ret
  exact ⟨rfl, rfl⟩
theorem rfail_neg (g : Nat) (n : Int) (w : World) (h2 : w.cell? ⟨g, 2, none⟩ = some (.bool false)) (hn : n < 0) :
    Calls Tryz.prog 31 #[.pointer (some ⟨g, 0, none⟩), .int .i64 n] w fun e w' => e = .returned (.int .i64 1) ∧ w = w' := by
  have g1 : decide (n < 0) = true := decide_eq_true hn
  go_enter Tryz.func31, Tryz.ntmps31
  go_wp2
  go_ret
  exact ⟨rfl, rfl⟩
theorem rfail_ok (g : Nat) (room : Int) (v : Value) (set : Bool) (n0 n : Int) (w : World) (hb : w.heap[g]? = some (.cells (rcells room v false set n0) 113 (0, 0))) (hn : 0 ≤ n) :
    Calls Tryz.prog 31 #[.pointer (some ⟨g, 0, none⟩), .int .i64 n] w fun e w' => e = .returned (.int .i64 0) ∧ w' = (w.setCell ⟨g, 3, none⟩ (.bool true)).setCell ⟨g, 4, none⟩ (.int .i64 n) := by
  have h2 : w.cell? ⟨g, 2, none⟩ = some (.bool false) := cellOf hb 2
  have h3 : w.cell? ⟨g, 3, none⟩ = some (.bool set) := cellOf hb 3
  have h4 : w.cell? ⟨g, 4, none⟩ = some (.int .i64 n0) := cellOf hb 4
  have f3 := frozenOf hb 3
  have f4 := frozenOf hb 4
  have g1 : decide (n < 0) = false := decide_eq_false (by omega)
  clear hb
  go_enter Tryz.func31, Tryz.ntmps31
  go_wp2
  go_ret
  exact ⟨rfl, rfl⟩
theorem R_fail (n : Int) (h : RAt G w g room s) (hi : Inv room s) :
    Calls Tryz.prog 31 #[.pointer (some ⟨g, 0, none⟩), .int .i64 n] w fun e w' => e = .returned (.int .i64 (failF s n).1) ∧ RTo G w w' g room (failF s n).2 := by
  obtain ⟨bs, off, fl⟩ := s
  have h' := h
  obtain ⟨hg, hF, v, set, n0, hb, hown, hv, hfl⟩ := h'
  unfold failF
  cases off with
  | true => exact (rfail_off g n w (cellOf hb 2)).mono fun e w' ⟨he, hw⟩ => ⟨he, RTo.same h (hw ▸ Below.refl _ _)⟩
  | false =>
    simp only [Bool.false_eq_true, if_false]
    by_cases hn : n < 0
    · rw [if_pos hn]
      exact (rfail_neg g n w (cellOf hb 2) hn).mono fun e w' ⟨he, hw⟩ => ⟨he, RTo.same h (hw ▸ Below.refl _ _)⟩
    · rw [if_neg hn]
      refine (rfail_ok g room v set n0 n w hb (by omega)).mono ?_
      rintro e w' ⟨rfl, rfl⟩
      have hsz : ((w.setCell ⟨g, 3, none⟩ (.bool true)).setCell ⟨g, 4, none⟩ (.int .i64 n)).heap.size = w.heap.size := by simp [World.setCell]
      exact ⟨rfl, ((Foot.refl G w).setCell (.inl hg) _).setCell (.inl hg) _, G, fun k hk => .inl hk, hg, by rw [hsz]; exact hF, v, _, _, by rw [blk_set (blk_set hb 3 _) 4 _]; rfl, own_set (own_set hown (fun e => (hv g e).2 rfl) _) (fun e => (hv g e).2 rfl) _, hv, .inr ⟨rfl, rfl⟩⟩
theorem rup_any (g : Nat) (room : Int) (v : Value) (off set : Bool) (n0 : Int) (w : World) (hb : w.heap[g]? = some (.cells (rcells room v off set n0) 113 (0, 0))) :
    Calls Tryz.prog 33 #[.pointer (some ⟨g, 0, none⟩)] w fun e w' => e = .returned (.int .i64 0) ∧ w' = (w.setCell ⟨g, 2, none⟩ (.bool false)).setCell ⟨g, 3, none⟩ (.bool false) := by
  have h2 : w.cell? ⟨g, 2, none⟩ = some (.bool off) := cellOf hb 2
  have h3 : w.cell? ⟨g, 3, none⟩ = some (.bool set) := cellOf hb 3
  have f2 := frozenOf hb 2
  have f3 := frozenOf hb 3
  clear hb
  go_enter Tryz.func33, Tryz.ntmps33
  go_wp2
  go_ret
  exact ⟨rfl, rfl⟩
theorem R_up (h : RAt G w g room s) :
    Calls Tryz.prog 33 #[.pointer (some ⟨g, 0, none⟩)] w fun e w' => e = .returned (.int .i64 0) ∧ RTo G w w' g room (upF s) := by
  obtain ⟨hg, hF, v, set, n0, hb, hown, hv, hfl⟩ := h
  refine (rup_any g room v s.off set n0 w hb).mono ?_
  rintro e w' ⟨rfl, rfl⟩
  have hsz : ((w.setCell ⟨g, 2, none⟩ (.bool false)).setCell ⟨g, 3, none⟩ (.bool false)).heap.size = w.heap.size := by simp [World.setCell]
  exact ⟨rfl, ((Foot.refl G w).setCell (.inl hg) _).setCell (.inl hg) _, G, fun k hk => .inl hk, hg, by rw [hsz]; exact hF, v, _, _, by rw [blk_set (blk_set hb 2 _) 3 _]; rfl, own_set (own_set hown (fun e => (hv g e).2 rfl) _) (fun e => (hv g e).2 rfl) _, hv, .inl ⟨rfl, rfl⟩⟩
theorem rdown_any (g : Nat) (off : Bool) (w : World) (h2 : w.cell? ⟨g, 2, none⟩ = some (.bool off)) :
    Calls Tryz.prog 37 #[.pointer (some ⟨g, 0, none⟩)] w fun e w' => e = .returned (.bool off) ∧ w = w' := by
  go_enter Tryz.func37, Tryz.ntmps37
  go_wp2
  go_ret
  exact ⟨rfl, rfl⟩
theorem R_down (h : RAt G w g room s) : Calls Tryz.prog 37 #[.pointer (some ⟨g, 0, none⟩)] w fun e w' => e = .returned (.bool s.off) ∧ w = w' := by
  obtain ⟨hg, hF, v, set, n0, hb, hown, hv, hfl⟩ := h
  exact rdown_any g s.off w (cellOf hb 2)
theorem rbytes_any (g : Nat) (A : Option Addr) (m c : Nat) (bs : List Int) (w : World) (h1 : w.cell? ⟨g, 1, none⟩ = some (.slice A m c)) (HR : Reads w .u8 A m bs) (hm : m ≤ 16777216) :
    Calls Tryz.prog 39 #[.pointer (some ⟨g, 0, none⟩)] w fun e w' => ∃ v, e = .returned v ∧ w'.ownsRow w.heap.size 5 1 v bs.length (nums .u8 bs) ∧ Below w.heap.size w w' := by
  have HRA := aside' HR
  clear HR
  go_enter Tryz.func39, Tryz.ntmps39
  go_wp2_with (at_builtin; refine append_row w.heap.size rfl _ _ 24 5 .u8 1 rfl Tryz.underlying24 info5 (by omega) (.slice none 0 0) [] bs A m c rfl rfl (World.ownsRow_nil _ _ _ _) HRA.out (Nat.le_refl _) (by simp; omega) ?_; intro v1 w1 hown1 hg1 hat1; obtain ⟨A1, L1, k1, rfl, HL1⟩ := own_form hown1)
  go_ret
  exact ⟨.slice A1 L1 k1, rfl, hown1, own_grown (World.ownsRow_nil w w.heap.size 5 1) hg1 (Nat.le_refl _)⟩
theorem R_bytes (h : RAt G w g room s) (hi : Inv room s) :
    Calls Tryz.prog 39 #[.pointer (some ⟨g, 0, none⟩)] w fun e w' => ∃ v, e = .returned v ∧ w'.ownsRow w.heap.size 5 1 v s.bs.length (nums .u8 s.bs) ∧ Below w.heap.size w w' := by
  obtain ⟨hg, hF, v, set, n0, hb, hown, hv, hfl⟩ := h
  obtain ⟨D, d, rfl, hnd, HD⟩ := own_reads hown
  have := hi.hl
  have := hi.h2
  exact rbytes_any g D s.bs.length d s.bs w (cellOf hb 1) HD (by omega)
theorem rtrim_yes (g : Nat) (room : Int) (D : Option Addr) (m d : Nat) (set : Bool) (n0 : Int) (n : Nat) (w : World) (hb : w.heap[g]? = some (.cells (rcells room (.slice D m d) false set n0) 113 (0, 0))) (hn : n ≤ m) (hmd : m ≤ d) (hm : m ≤ 9223372036854775807) :
    Calls Tryz.prog 29 #[.pointer (some ⟨g, 0, none⟩), .int .i64 n] w fun e w' => e = .returned (.int .i64 0) ∧ w' = w.setCell ⟨g, 1, none⟩ (.slice D n d) := by
  have h1 : w.cell? ⟨g, 1, none⟩ = some (.slice D m d) := cellOf hb 1
  have h2 : w.cell? ⟨g, 2, none⟩ = some (.bool false) := cellOf hb 2
  have f1 := frozenOf hb 1
  have g1 : decide ((n : Int) < 0) = false := decide_eq_false (by omega)
  have g2 : decide ((m : Int) < (n : Int)) = false := decide_eq_false (by omega)
  have j1 : (n : Int) ≤ (d : Int) := by omega
  have j2 : n ≤ d := by omega
  have j3 : (0 : Int) ≤ (n : Int) := by omega
  have hn9 : n ≤ 9223372036854775807 := by omega
  clear hb
  go_enter Tryz.func29, Tryz.ntmps29
  go_wp2
  go_ret
  exact ⟨rfl, rfl⟩
theorem R_trim {n : Nat} (h : RAt G w g room ⟨s.bs, false, s.fl⟩) (hn : n ≤ s.bs.length) :
    Calls Tryz.prog 29 #[.pointer (some ⟨g, 0, none⟩), .int .i64 n] w fun e w' => e = .returned (.int .i64 0) ∧ RTo G w w' g room ⟨s.bs.take n, false, s.fl⟩ := by
  obtain ⟨hg, hF, v, set, n0, hb, hown, hv, hfl⟩ := h
  obtain ⟨D, d, rfl, hnd, HD⟩ := own_reads hown
  refine (rtrim_yes g room D s.bs.length d set n0 n w hb hn hnd HD.2.1).mono ?_
  rintro e w' ⟨rfl, rfl⟩
  have hsz : (w.setCell ⟨g, 1, none⟩ (.slice D n d)).heap.size = w.heap.size := by simp [World.setCell]
  have hl : (s.bs.take n).length = n := by simp; omega
  have hob : (Value.slice D n d).ownBlock = (Value.slice D s.bs.length d).ownBlock := by cases D <;> rfl
  refine ⟨rfl, (Foot.refl G w).setCell (.inl hg) _, G, fun k hk => .inl hk, hg, by rw [hsz]; exact hF, .slice D n d, set, n0, by rw [blk_set hb 1 _]; rfl, ?_, fun k hk => hv k (hob ▸ hk), hfl⟩
  simp only
  rw [hl]
  exact own_set (own_cut hown hn) (fun e => (hv g (hob ▸ e)).2 rfl) _
theorem R_new (room : Int) (w : World) (h1 : 1 ≤ room) (h2 : room ≤ 16777216) :
    Calls Tryz.prog 27 #[.int .i64 room] w fun e w' => e = .returned (.tuple #[.pointer (some ⟨w.heap.size, 0, none⟩), .int .i64 0]) ∧ RAt (fun k => k = w.heap.size) w' w.heap.size room ⟨[], false, none⟩ ∧ Below w.heap.size w w' := by
  have g1 : decide (room < 1) = false := decide_eq_false (by omega)
  have g2 : decide (16777216 < room) = false := decide_eq_false (by omega)
  have hfin : RAt (fun k => k = w.heap.size) (w.alloc (.cells (rcells room (.slice none 0 0) false false 0) 113)) w.heap.size room ⟨[], false, none⟩ := ⟨rfl, by rintro k rfl; simp, .slice none 0 0, false, 0, heap_alloc_new w _, World.ownsRow_nil _ _ _ _, by intro k hk; simp [Value.ownBlock] at hk, .inl ⟨rfl, rfl⟩⟩
  have HF := aside' hfin
  clear hfin
  go_enter Tryz.func27, Tryz.ntmps27
  go_wp2
  go_ret2
  exact ⟨rfl, HF.out, (Below.refl _ _).alloc (Nat.le_refl _) _⟩
theorem R_new_off (room : Int) (w : World) (h : room < 1 ∨ 16777216 < room) :
    Calls Tryz.prog 27 #[.int .i64 room] w fun e w' => e = .returned (.tuple #[.pointer none, .int .i64 1]) ∧ w = w' := by
  by_cases h1 : room < 1
  · have g1 : decide (room < 1) = true := decide_eq_true h1
    go_enter Tryz.func27, Tryz.ntmps27
    go_wp2
    go_ret2
    exact ⟨rfl, rfl⟩
  · have g1 : decide (room < 1) = false := decide_eq_false h1
    have g2 : decide (16777216 < room) = true := decide_eq_true (by omega)
    go_enter Tryz.func27, Tryz.ntmps27
    go_wp2
    go_ret2
    exact ⟨rfl, rfl⟩
theorem rnil_append : Calls Tryz.prog 35 #[.pointer none, .slice A m c] w fun e w' => e = .returned (.int .i64 2) ∧ w = w' := by
  go_enter Tryz.func35, Tryz.ntmps35
  go_wp2
  go_ret
  exact ⟨rfl, rfl⟩
theorem rnil_fail (n : Int) : Calls Tryz.prog 31 #[.pointer none, .int .i64 n] w fun e w' => e = .returned (.int .i64 2) ∧ w = w' := by
  go_enter Tryz.func31, Tryz.ntmps31
  go_wp2
  go_ret
  exact ⟨rfl, rfl⟩
theorem rnil_up : Calls Tryz.prog 33 #[.pointer none] w fun e w' => e = .returned (.int .i64 2) ∧ w = w' := by
  go_enter Tryz.func33, Tryz.ntmps33
  go_wp2
  go_ret
  exact ⟨rfl, rfl⟩
theorem rnil_down : Calls Tryz.prog 37 #[.pointer none] w fun e w' => e = .returned (.bool false) ∧ w = w' := by
  go_enter Tryz.func37, Tryz.ntmps37
  go_wp2
  go_ret
  exact ⟨rfl, rfl⟩
theorem rnil_bytes : Calls Tryz.prog 39 #[.pointer none] w fun e w' => e = .returned (.slice none 0 0) ∧ w = w' := by
  go_enter Tryz.func39, Tryz.ntmps39
  go_wp2
  go_ret
  exact ⟨rfl, rfl⟩
theorem rnil_trim (n : Int) : Calls Tryz.prog 29 #[.pointer none, .int .i64 n] w fun e w' => e = .returned (.int .i64 2) ∧ w = w' := by
  go_enter Tryz.func29, Tryz.ntmps29
  go_wp2
  go_ret
  exact ⟨rfl, rfl⟩
theorem rtrim_off (g : Nat) (n : Int) (w : World) (h2 : w.cell? ⟨g, 2, none⟩ = some (.bool true)) :
    Calls Tryz.prog 29 #[.pointer (some ⟨g, 0, none⟩), .int .i64 n] w fun e w' => e = .returned (.int .i64 13) ∧ w = w' := by
  go_enter Tryz.func29, Tryz.ntmps29
  go_wp2
  go_ret
  exact ⟨rfl, rfl⟩
theorem rtrim_neg (g : Nat) (n : Int) (w : World) (h2 : w.cell? ⟨g, 2, none⟩ = some (.bool false)) (hn : n < 0) :
    Calls Tryz.prog 29 #[.pointer (some ⟨g, 0, none⟩), .int .i64 n] w fun e w' => e = .returned (.int .i64 1) ∧ w = w' := by
  have g1 : decide (n < 0) = true := decide_eq_true hn
  go_enter Tryz.func29, Tryz.ntmps29
  go_wp2
  go_ret
  exact ⟨rfl, rfl⟩
theorem rtrim_far (g : Nat) (D : Option Addr) (m d : Nat) (n : Int) (w : World) (h1 : w.cell? ⟨g, 1, none⟩ = some (.slice D m d)) (h2 : w.cell? ⟨g, 2, none⟩ = some (.bool false)) (hn : ¬ n < 0) (hm : (m : Int) < n) :
    Calls Tryz.prog 29 #[.pointer (some ⟨g, 0, none⟩), .int .i64 n] w fun e w' => e = .returned (.int .i64 1) ∧ w = w' := by
  have g1 : decide (n < 0) = false := decide_eq_false hn
  have g2 : decide ((m : Int) < n) = true := decide_eq_true hm
  go_enter Tryz.func29, Tryz.ntmps29
  go_wp2
  go_ret
  exact ⟨rfl, rfl⟩
theorem R_trim_any (n : Int) (h : RAt G w g room s) :
    Calls Tryz.prog 29 #[.pointer (some ⟨g, 0, none⟩), .int .i64 n] w fun e w' => e = .returned (.int .i64 (trimF s n).1) ∧ RTo G w w' g room (trimF s n).2 := by
  obtain ⟨bs, off, fl⟩ := s
  have h' := h
  obtain ⟨hg, hF, v, set, n0, hb, hown, hv, hfl⟩ := h'
  obtain ⟨D, d, rfl, hnd, HD⟩ := own_reads hown
  unfold trimF
  cases off with
  | true => exact (rtrim_off g n w (cellOf hb 2)).mono fun e w' ⟨he, hw⟩ => ⟨he, RTo.same h (hw ▸ Below.refl _ _)⟩
  | false =>
    simp only [Bool.false_eq_true, if_false]
    by_cases hn : n < 0
    · rw [if_pos (.inl hn)]
      exact (rtrim_neg g n w (cellOf hb 2) hn).mono fun e w' ⟨he, hw⟩ => ⟨he, RTo.same h (hw ▸ Below.refl _ _)⟩
    · by_cases hm : (bs.length : Int) < n
      · rw [if_pos (.inr hm)]
        exact (rtrim_far g D bs.length d n w (cellOf hb 1) (cellOf hb 2) hn hm).mono fun e w' ⟨he, hw⟩ => ⟨he, RTo.same h (hw ▸ Below.refl _ _)⟩
      · rw [if_neg (by omega)]
        obtain ⟨k, rfl⟩ := Int.eq_ofNat_of_zero_le (show 0 ≤ n by omega)
        exact R_trim (s := ⟨bs, false, fl⟩) h (by simp only; omega)
end
end Go.Proofs.YtmoakgkoahjijaaGreatDoor
