/-
  The walk of the law PacketBytes.
-/
import Derived.Test.YtipeeacplhgihaaBack
import Derived.Test.YtipeeacplhgihaaNumRow
set_option linter.unusedVariables false
set_option linter.unusedSimpArgs false
namespace Go.Proofs.Ytipeeacplhgihaa
open Go.RowKit PkMath

theorem CurAt.grown {base b n : Nat} {w w' : World} {g a : Nat} {zs : List Int} {v : Value} {xs : List Value} (h : CurAt base w g zs a) (ho : w.ownsRow b 33 3 v n xs) (hg : w.grownBy w' v.ownBlock) : CurAt base w' g zs a := by
  obtain ⟨h1, h2, h3, A, c, h4, h5, h6⟩ := h
  have far : ∀ (k : Nat) (cs : Array Value) (t : TypeId), t ≠ 33 → w.heap[k]? = some (.cells cs t (0, 0)) → w'.heap[k]? = some (.cells cs t (0, 0)) := by
    intro k cs t ht hk
    refine (hg.block k (Array.getElem?_eq_some_iff.1 hk).1 (fun e => ?_)).trans hk
    rcases ho.2 with ⟨rfl, _⟩ | ⟨q, cap, cur, rfl, _, hq, _⟩
    · simp [Value.ownBlock] at e
    · have e : k = q := by simpa [Value.ownBlock] using e
      subst e
      rw [hk] at hq
      injection hq with hq
      injection hq with _ hq _
      exact ht hq
  refine ⟨h1, h2, h3, A, c, far _ _ _ (by decide) h4, ⟨h5.1, h5.2.elim .inl ?_⟩, h6⟩
  rintro ⟨q, cap, cur, e, e2, e3, r⟩
  exact .inr ⟨q, cap, cur, e, e2, far _ _ _ (by decide) e3, r⟩
theorem CurAt.notRow {base b n : Nat} {w : World} {g a : Nat} {zs : List Int} {v : Value} {xs : List Value} (h : CurAt base w g zs a) (ho : w.ownsRow b 33 3 v n xs) : ∀ k, v.ownBlock = some k → ¬ k = g := by
  obtain ⟨h1, h2, h3, A, c, h4, h5, h6⟩ := h
  rintro k hk rfl
  rcases ho.2 with ⟨rfl, _⟩ | ⟨q, cap, cur, rfl, _, hq, _⟩
  · simp [Value.ownBlock] at hk
  · have e : q = k := by simpa [Value.ownBlock] using hk
    subst e
    rw [h4] at hq
    injection hq with hq
    injection hq with _ hq _
    exact absurd hq (by decide)

/-- What PacketBytes holds in its loop: the cursor, and the numbers taken. -/
structure BY (w : World) (g a : Nat) (zs : List Int) (v : Value) (ls : List Num) (W : World) : Prop where
  bk : BK w g a zs W
  row : W.ownsRow w.heap.size 33 3 v ls.length (numsV ls)
section
variable {w : World} {g a : Nat} {zs : List Int} {v : Value} {ls : List Num} {W W' : World}
theorem BY.next (h : BY w g a zs v ls W) (hb : Below W.heap.size W W') : BY w g a zs v ls W' := ⟨h.bk.next hb, own_keep h.row hb⟩
theorem BY.alloc (h : BY w g a zs v ls W) (o : Obj) : BY w g a zs v ls (W.alloc o) := h.next ((Below.refl _ _).alloc (Nat.le_refl _) _)
theorem BY.drewN (h : BY w g a zs v ls W) (q : Nat) : BY w g a zs v ls (W.drewN q) := h.next (below_drewN (Below.refl _ _) q)
theorem BY.left (h : BY w g a zs v ls W) (r : Nat) (hr : 8 * zs.length = a + r) : Calls Try.prog 11 #[.pointer (some ⟨g, 0, none⟩)] W fun e W' => e = .returned (.int .i64 (r : Int)) ∧ BY w g a zs v ls W' :=
  (Left_any h.bk.cur).mono fun e W' ⟨he, q, hq⟩ => ⟨by rw [he]; congr 2; omega, by subst hq; exact h.drewN q⟩
theorem BY.take (hz : ∀ j, 0 ≤ zs.getD j 0 ∧ zs.getD j 0 ≤ 255) (h : BY w g a zs v ls W) (wd : Nat) (h1 : 1 ≤ wd) (h2 : wd ≤ 128) (h3 : a + wd ≤ 8 * zs.length) :
    Calls Try.prog 9 #[.pointer (some ⟨g, 0, none⟩), .int .i64 (wd : Int)] W fun e W' => e = .returned (.tuple #[.agg #[.int .i64 (wd : Int), .int .u64 (hiOf (numOf (win (bitsL zs) a wd))), .int .u64 (loOf (numOf (win (bitsL zs) a wd)))], .int .i64 0]) ∧ BY w g (a + wd) zs v ls W' :=
  (Take_ok hz h.bk.cur wd h1 h2 h3).mono fun e W' ⟨he, hc, hf⟩ => ⟨he, h.bk.foot hc hf, hf.own h.row (h.bk.cur.notRow h.row)⟩
theorem BY.app {v1 : Value} {x : Num} (h : BY w g a zs v ls W) (ho : W'.ownsRow w.heap.size 33 3 v1 (ls.length + 1) (numsV ls ++ [.int .i64 x.W, .int .u64 x.Hi, .int .u64 x.Lo])) (hg : W.grownBy W' v.ownBlock) : BY w g a zs v1 (ls ++ [x]) W' := by
  refine ⟨⟨h.bk.cur.grown h.row hg, h.bk.below.trans (own_grown h.row hg h.bk.below.size)⟩, ?_⟩
  rw [List.length_append, List.length_singleton, numsV_append, numsV_one]
  exact ho
end

/-- Numbers that were taken, all that was taken of some bytes. -/
def Took (zs : List Int) (a : Nat) (ls : List Num) : Prop :=
  allBits ls = win (bitsL zs) 0 a ∧ (∀ j, j < ls.length → (ls.getD j zeroNum).wf ∧ (ls.getD j zeroNum).ok)
theorem Took.nil (zs : List Int) : Took zs 0 [] := ⟨by simp [allBits, win], fun j hj => by simp at hj⟩
theorem Took.next {zs : List Int} {a : Nat} {ls : List Num} (h : Took zs a ls) (d : Nat) (h1 : 1 ≤ d) (h2 : d ≤ 128) (h3 : a + d ≤ 8 * zs.length) : Took zs (a + d) (ls ++ [mkNum d (numOf (win (bitsL zs) a d))]) := by
  have hl : (bitsL zs).length = 8 * zs.length := bitsL_length zs
  have hlt := numOf_lt (win (bitsL zs) a d)
  rw [win_length _ _ _ (by omega)] at hlt
  refine ⟨?_, fun j hj => ?_⟩
  · rw [allBits_append, h.1, allBits_one, mkNum_win _ _ _ h2 (by omega), win_add, Nat.zero_add]
  · rw [List.length_append, List.length_singleton] at hj
    by_cases hj2 : j < ls.length
    · rw [List.getD_eq_getElem?_getD, List.getElem?_append_left hj2, ← List.getD_eq_getElem?_getD]
      exact h.2 j hj2
    · obtain rfl : j = ls.length := by omega
      rw [List.getD_eq_getElem?_getD, List.getElem?_append_right (Nat.le_refl _), Nat.sub_self]
      exact ⟨mkNum_wf _ _ h2 hlt, mkNum_ok _ _ h1 h2 hlt⟩
theorem Took.all {zs : List Int} {ls : List Num} (hz : ∀ j, 0 ≤ zs.getD j 0 ∧ zs.getD j 0 ≤ 255) (h : Took zs (8 * zs.length) ls) : allOk ls ∧ (allBits ls).length = 8 * zs.length ∧ pack (allBits ls) zs.length = zs := by
  have hl : (bitsL zs).length = 8 * zs.length := bitsL_length zs
  have e : allBits ls = bitsL zs := by
    rw [h.1]
    unfold win
    rw [List.drop_zero, ← hl, List.take_length]
  exact ⟨fun j hj => (h.2 j hj).2, by rw [e, hl], by rw [e]; exact pack_bitsL zs hz⟩
theorem bytes_of {xs : List Int} {n : Nat} (hl : xs.length = n) (h : ∀ j, j < n → 0 ≤ xs.getD j 0 ∧ xs.getD j 0 ≤ 255) : ∀ j, 0 ≤ xs.getD j 0 ∧ xs.getD j 0 ≤ 255 := by
  intro j
  by_cases hj : j < n
  · exact h j hj
  · rw [List.getD_eq_getElem?_getD, List.getElem?_eq_none (by omega)]
    exact ⟨by decide, by decide⟩
theorem min_lit (x : Int) (a b n : Nat) (hx : x = (a : Int)) (h : n = min a b) (W : World) : (Builtin.min_ #[3, 3] 3 #[.int .i64 x, .int .i64 (b : Int)]).run Try.prog W = .ok (.int .i64 (n : Int)) W := by
  subst hx
  exact min2_run a b n h W
theorem cells_one (W : World) (d hi lo : Int) : Cells (W.alloc (.cells #[.int .i64 d, .int .u64 hi, .int .u64 lo] 33)) (some ⟨W.heap.size, 0, none⟩) 1 3 [.int .i64 d, .int .u64 hi, .int .u64 lo] :=
  Cells.lit W 33 #[.int .i64 d, .int .u64 hi, .int .u64 lo] 1 3 rfl (by intro u hu; simp at hu; rcases hu with rfl | rfl | rfl <;> rfl)

set_option maxRecDepth 100000 in
set_option maxHeartbeats 8000000 in
theorem bytes_law (A B : Option Addr) (n c m e : Nat) (zs ws : List Int) (w : World) (hz : ∀ j, 0 ≤ zs.getD j 0 ∧ zs.getD j 0 ≤ 255) (hws : ∀ j, 0 ≤ ws.getD j 0 ∧ ws.getD j 0 ≤ 255) (hR : Reads w .u8 A n zs) (hS : Reads w .u8 B m ws) :
    Calls Try.prog 4 #[.slice A n c, .slice B m e] w fun e w' => e = .returned (.bool true) ∧ Below w.heap.size w w' := by
  have hnm := hR.2.1
  have hmm := hS.2.1
  by_cases hbig : 1000 < n
  · have hd : decide (1000 < (n : Int)) = true := decide_eq_true (by omega)
    clear hR hS
    go_enter Try.func4, Try.ntmps4
    go_wp2_with fail
    refine (alive_any _).mono ?_
    rintro e w1 ⟨rfl, hb1⟩
    go_wp2_with fail
    refine (alive_any _).mono ?_
    rintro e w2 ⟨rfl, hb2⟩
    go_wp2
    go_ret
    exact ⟨rfl, hb1.trans (hb2.mono hb1.size)⟩
  · have hd : decide (1000 < (n : Int)) = false := decide_eq_false (by omega)
    have hn1 : n ≤ 1000 := by omega
    have HR : Aside (Reads w .u8 A n zs) := hR
    have HS : Aside (Reads w .u8 B m ws) := hS
    have HL : Aside (zs.length = n) := hR.1
    have HZ : Aside ((∀ j, 0 ≤ zs.getD j 0 ∧ zs.getD j 0 ≤ 255) ∧ ∀ j, 0 ≤ ws.getD j 0 ∧ ws.getD j 0 ≤ 255) := ⟨hz, hws⟩
    clear hR hS hz hws hbig
    go_enter Try.func4, Try.ntmps4
    go_wp2_with fail
    refine (alive_any _).mono ?_
    rintro e w1 ⟨rfl, hb1⟩
    go_wp2_with fail
    refine (New_any A n c zs _ (HR.out.below hb1) (by omega)).mono ?_
    rintro e w3 ⟨g, rfl, hc3, hb3⟩
    have K3 : BY w g 0 zs (.slice none 0 0) [] w3 := ⟨⟨hc3.base hb1.size, hb1.trans (hb3.mono hb1.size)⟩, World.ownsRow_nil _ _ _ _⟩
    clear hc3 hb3 hb1
    go_wp2
    go_loopw [7, 8] (fun v i wr => ∃ (k a : Nat) (ls : List Num), k ≤ a ∧ a ≤ 8 * n ∧ i = .int .i64 k ∧ Aside (Took zs a ls ∧ ls.length = k) ∧ BY w g a zs v ls wr) (fun _ i _ => 8001 - (intOf i).toNat)
    case atStart => exact ⟨0, 0, [], Nat.le_refl _, Nat.zero_le _, rfl, ⟨Took.nil zs, rfl⟩, K3⟩
    case round =>
      obtain ⟨k, a, ls, hka, han, rfl, hT, hK⟩ := hrel
      clear K3
      obtain ⟨r, hr⟩ : ∃ r, 8 * n = a + r := ⟨8 * n - a, by omega⟩
      have HR8 : Aside (8 * n = a + r) := hr
      have HLF : Aside (∀ v ls V, BY w g a zs v ls V → Calls Try.prog 11 #[.pointer (some ⟨g, 0, none⟩)] V fun e W' => e = .returned (.int .i64 (r : Int)) ∧ BY w g a zs v ls W') := fun v ls V h => h.left r (by rw [HL.out]; exact HR8.out)
      obtain ⟨D, L, d0, rfl, HLL⟩ := own_form hK.row
      clear hr
      by_cases hr0 : 0 < r
      · have hd0 : decide (0 < r) = true := decide_eq_true hr0
        have hr8 : r ≤ 8000 := by have := HR8.out; omega
        have HR1 : Aside (1 ≤ r) := hr0
        clear hr0
        by_cases hm0 : 0 < m
        · have hdm : decide (0 < m) = true := decide_eq_true hm0
          obtain ⟨j, hj⟩ : ∃ j, j = k % m := ⟨_, rfl⟩
          have hjm : j < m := by rw [hj]; exact Nat.mod_lt _ hm0
          have s1 : (k : Int) % (m : Int) = (j : Int) := by rw [hj]; simp
          have s2 : (k : Int).tmod (m : Int) = (j : Int) := by rw [Int.tmod_eq_emod_of_nonneg (by omega)]; exact s1
          have hmz : ((m : Int) == 0) = false := by simp; omega
          obtain ⟨b, off, hB, hbs, hcells⟩ := HS.out.plain hm0
          subst hB
          have hq := hcells j hjm
          have hx := HZ.out.2 j
          generalize ws.getD j 0 = x at *
          obtain ⟨wd, hwd⟩ : ∃ wd : Nat, (wd : Int) = 1 + x % 128 := ⟨(1 + x % 128).toNat, by omega⟩
          have hwd1 : 1 ≤ wd := by omega
          have hwd2 : wd ≤ 128 := by omega
          have s3 : x.tmod 128 = x % 128 := Int.tmod_eq_emod_of_nonneg (by omega)
          have HQ : Aside (∀ V, Below w.heap.size w V → V.cell? ⟨b, off + j, none⟩ = some (.int .u8 x)) := fun V hV => (hV.cell (p := ⟨_, _, _⟩) hbs).trans hq
          have hj0 : (0 : Int) ≤ (j : Int) := by omega
          have hj1 : (j : Int) < (m : Int) := by omega
          have hm1 : (0 : Int) < (m : Int) := by omega
          obtain ⟨d, hdd⟩ : ∃ d, d = min wd r := ⟨_, rfl⟩
          have hmin := min_lit (1 + x % 128) wd r d hwd.symm hdd
          have HD : Aside (1 ≤ d ∧ d ≤ 128 ∧ d ≤ r) := ⟨by have := HR1.out; omega, by omega, by omega⟩
          clear hj hcells hq hm0 hwd hwd1 hwd2 hdd
          go_wp2_with fail
          refine Calls.mono (HLF.out _ _ _ hK) ?_
          rintro e w4 ⟨rfl, hK4⟩
          have q0 := HQ.out _ hK4.bk.below
          go_wp2_with fail
          refine Calls.mono (HLF.out _ _ _ hK4) ?_
          rintro e w5 ⟨rfl, hK5⟩
          have hfit : a + d ≤ 8 * n := by have := HD.out; have := HR8.out; omega
          have HTK : Aside (∀ V, BY w g a zs (.slice D L d0) ls V → Calls Try.prog 9 #[.pointer (some ⟨g, 0, none⟩), .int .i64 (d : Int)] V fun e W' => e = .returned (.tuple #[.agg #[.int .i64 (d : Int), .int .u64 (hiOf (numOf (win (bitsL zs) a d))), .int .u64 (loOf (numOf (win (bitsL zs) a d)))], .int .i64 0]) ∧ BY w g (a + d) zs (.slice D L d0) ls W') :=
            fun V hV => hV.take HZ.out.1 d HD.out.1 HD.out.2.1 (by rw [HL.out]; exact hfit)
          have HNX : Aside (Took zs (a + d) (ls ++ [⟨(d : Int), hiOf (numOf (win (bitsL zs) a d)), loOf (numOf (win (bitsL zs) a d))⟩]) ∧ ls.length = k) := ⟨hT.out.1.next d HD.out.1 HD.out.2.1 (by rw [HL.out]; exact hfit), hT.out.2⟩
          generalize hiOf (numOf (win (bitsL zs) a d)) = hi at *
          generalize loOf (numOf (win (bitsL zs) a d)) = lo at *
          go_wp2_with fail
          refine Calls.mono (HTK.out _ hK5) ?_
          rintro e w6 ⟨rfl, hK6⟩
          have hK7 := (hK6.alloc (.cells #[.int .i64 (d : Int), .int .u64 hi, .int .u64 lo] 33)).alloc (.cells #[.int .i64 (d : Int), .int .u64 hi, .int .u64 lo] 33)
          have HC : Aside (Cells ((w6.alloc (.cells #[.int .i64 (d : Int), .int .u64 hi, .int .u64 lo] 33)).alloc (.cells #[.int .i64 (d : Int), .int .u64 hi, .int .u64 lo] 33)) (some ⟨w6.heap.size + 1, 0, none⟩) 1 3 [.int .i64 (d : Int), .int .u64 hi, .int .u64 lo]) := by
            have := cells_one (w6.alloc (.cells #[.int .i64 (d : Int), .int .u64 hi, .int .u64 lo] 33)) d hi lo
            rw [World.size_alloc] at this
            exact this
          have HSZ : Aside (w.heap.size ≤ ((w6.alloc (.cells #[.int .i64 (d : Int), .int .u64 hi, .int .u64 lo] 33)).alloc (.cells #[.int .i64 (d : Int), .int .u64 hi, .int .u64 lo] 33)).heap.size) := hK7.bk.below.size
          have HLN : Aside (ls.length ≤ 8000) := by show ls.length ≤ 8000; rw [hT.out.2]; omega
          have HK7 : Aside _ := hK7
          clear hK4 hK5 hK6 hK7 hT hfit hK
          go_wp2_with (at_builtin; refine append_cells w.heap.size rfl _ _ 22 33 (.agg #[.int .i64 0, .int .u64 0, .int .u64 0]) 3 24 rfl Try.underlying22 infoBits rfl (by decide) (by decide) (.slice D L d0) ls.length (numsV ls) [.int .i64 (d : Int), .int .u64 hi, .int .u64 lo] _ 1 1 rfl rfl HK7.out.row HC.out HSZ.out (by have := HLN.out; omega) ?_; intro v1 w8 hown hg hat; have hN := HK7.out.app (x := ⟨(d : Int), hi, lo⟩) hown hg; clear hown hg hat)
          go_roundw
          case rel => exact ⟨k + 1, a + d, ls ++ [⟨(d : Int), hi, lo⟩], by have := HD.out; omega, by have := HD.out; have := HR8.out; omega, by go_num, ⟨HNX.out.1, by rw [List.length_append, HNX.out.2]; rfl⟩, hN⟩
          case measure => (simp [intOf]; omega)
        · have hdm : decide (0 < m) = false := decide_eq_false hm0
          obtain ⟨d, hdd⟩ : ∃ d, d = min 8 r := ⟨_, rfl⟩
          have hmin := min_lit 8 8 r d rfl hdd
          have HD : Aside (1 ≤ d ∧ d ≤ 128 ∧ d ≤ r) := ⟨by have := HR1.out; omega, by omega, by omega⟩
          clear hm0 hdd
          go_wp2_with fail
          refine Calls.mono (HLF.out _ _ _ hK) ?_
          rintro e w4 ⟨rfl, hK4⟩
          go_wp2_with fail
          refine Calls.mono (HLF.out _ _ _ hK4) ?_
          rintro e w5 ⟨rfl, hK5⟩
          have hfit : a + d ≤ 8 * n := by have := HD.out; have := HR8.out; omega
          have HTK : Aside (∀ V, BY w g a zs (.slice D L d0) ls V → Calls Try.prog 9 #[.pointer (some ⟨g, 0, none⟩), .int .i64 (d : Int)] V fun e W' => e = .returned (.tuple #[.agg #[.int .i64 (d : Int), .int .u64 (hiOf (numOf (win (bitsL zs) a d))), .int .u64 (loOf (numOf (win (bitsL zs) a d)))], .int .i64 0]) ∧ BY w g (a + d) zs (.slice D L d0) ls W') :=
            fun V hV => hV.take HZ.out.1 d HD.out.1 HD.out.2.1 (by rw [HL.out]; exact hfit)
          have HNX : Aside (Took zs (a + d) (ls ++ [⟨(d : Int), hiOf (numOf (win (bitsL zs) a d)), loOf (numOf (win (bitsL zs) a d))⟩]) ∧ ls.length = k) := ⟨hT.out.1.next d HD.out.1 HD.out.2.1 (by rw [HL.out]; exact hfit), hT.out.2⟩
          generalize hiOf (numOf (win (bitsL zs) a d)) = hi at *
          generalize loOf (numOf (win (bitsL zs) a d)) = lo at *
          go_wp2_with fail
          refine Calls.mono (HTK.out _ hK5) ?_
          rintro e w6 ⟨rfl, hK6⟩
          have hK7 := (hK6.alloc (.cells #[.int .i64 (d : Int), .int .u64 hi, .int .u64 lo] 33)).alloc (.cells #[.int .i64 (d : Int), .int .u64 hi, .int .u64 lo] 33)
          have HC : Aside (Cells ((w6.alloc (.cells #[.int .i64 (d : Int), .int .u64 hi, .int .u64 lo] 33)).alloc (.cells #[.int .i64 (d : Int), .int .u64 hi, .int .u64 lo] 33)) (some ⟨w6.heap.size + 1, 0, none⟩) 1 3 [.int .i64 (d : Int), .int .u64 hi, .int .u64 lo]) := by
            have := cells_one (w6.alloc (.cells #[.int .i64 (d : Int), .int .u64 hi, .int .u64 lo] 33)) d hi lo
            rw [World.size_alloc] at this
            exact this
          have HSZ : Aside (w.heap.size ≤ ((w6.alloc (.cells #[.int .i64 (d : Int), .int .u64 hi, .int .u64 lo] 33)).alloc (.cells #[.int .i64 (d : Int), .int .u64 hi, .int .u64 lo] 33)).heap.size) := hK7.bk.below.size
          have HLN : Aside (ls.length ≤ 8000) := by show ls.length ≤ 8000; rw [hT.out.2]; omega
          have HK7 : Aside _ := hK7
          clear hK4 hK5 hK6 hK7 hT hfit hK
          go_wp2_with (at_builtin; refine append_cells w.heap.size rfl _ _ 22 33 (.agg #[.int .i64 0, .int .u64 0, .int .u64 0]) 3 24 rfl Try.underlying22 infoBits rfl (by decide) (by decide) (.slice D L d0) ls.length (numsV ls) [.int .i64 (d : Int), .int .u64 hi, .int .u64 lo] _ 1 1 rfl rfl HK7.out.row HC.out HSZ.out (by have := HLN.out; omega) ?_; intro v1 w8 hown hg hat; have hN := HK7.out.app (x := ⟨(d : Int), hi, lo⟩) hown hg; clear hown hg hat)
          go_roundw
          case rel => exact ⟨k + 1, a + d, ls ++ [⟨(d : Int), hi, lo⟩], by have := HD.out; omega, by have := HD.out; have := HR8.out; omega, by go_num, ⟨HNX.out.1, by rw [List.length_append, HNX.out.2]; rfl⟩, hN⟩
          case measure => (simp [intOf]; omega)
      · have hd0 : decide (0 < r) = false := decide_eq_false hr0
        obtain rfl : r = 0 := by omega
        obtain rfl : a = 8 * n := by have := HR8.out; omega
        have HT : Aside (Took zs (8 * n) ls ∧ ls.length = k) := hT
        have hall := (show Took zs (8 * zs.length) ls by rw [HL.out]; exact hT.out.1).all HZ.out.1
        rw [HL.out] at hall
        have HALL : Aside (allOk ls ∧ (allBits ls).length = 8 * n ∧ pack (allBits ls) n = zs) := hall
        have HRS : Aside (∀ V, BK w g (8 * n) zs V → Calls Try.prog 12 #[.pointer (some ⟨g, 0, none⟩)] V fun e W' => ∃ A c, e = .returned (.slice A 0 c) ∧ BK w g (8 * n) zs W') := fun V h => h.rest 0 (by rw [HL.out]; omega)
        clear hT hall hr0
        go_wp2_with fail
        refine Calls.mono (HLF.out _ _ _ hK) ?_
        rintro e w4 ⟨rfl, hK4⟩
        obtain ⟨A9, c9, hv9, hN9⟩ := own_nums rfl (by have := HT.out.2; omega) hK4.row
        injection hv9 with h1 h2 h3
        subst h1 h2 h3
        have HPUT : Aside (∀ V, ReadsNums V D ls.length ls → Calls Try.prog 7 #[.slice D ls.length d0] V fun e w' => ∃ B d, e = .returned (.tuple #[.slice B n d, .int .i64 0]) ∧ Reads w' .u8 B n zs ∧ Below V.heap.size V w') := by
          intro V hV
          refine (Put_ok D ls.length d0 ls V hV (by have := HT.out.2; omega) (fun j hj => (HT.out.1.2 j hj).1) HALL.out.1 (by rw [HALL.out.2.1]; omega)).mono ?_
          rintro e w' ⟨v, he, ho, hb⟩
          rw [HALL.out.2.1, show (8 * n + 7) / 8 = n by omega, HALL.out.2.2] at ho
          obtain ⟨B, L, d, rfl, HLL⟩ := own_form ho
          have hLM : L = n := HLL.out
          subst hLM
          exact ⟨B, d, he, own_rd' ho, hb⟩
        have HN9 : Aside (ReadsNums w4 D ls.length ls) := hN9
        clear hN9
        generalize ls.length = ln at *
        go_wp2_with fail
        refine Calls.mono (HPUT.out _ HN9.out) ?_
        rintro e w5 ⟨B5, d5, rfl, hR5, hb5⟩
        have HR5 : Aside (Reads w5 .u8 B5 n zs) := hR5
        have hK5 := hK4.bk.next hb5
        clear hR5
        have HSM := fun c d => same_two B5 A n c d zs w5 HR5.out (HR.out.below hK5.below)
        go_wp2_with fail
        refine Calls.mono (HSM _ _) ?_
        rintro e w6 ⟨rfl, q, rfl⟩
        go_wp2_with fail
        refine Calls.mono (HRS.out _ (hK5.drewN q)) ?_
        rintro e w7 ⟨A7, c7, rfl, hK7⟩
        go_wp2
        go_ret
        exact ⟨rfl, hK7.below⟩
end Go.Proofs.Ytipeeacplhgihaa
