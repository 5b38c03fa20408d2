/-
  The walk of the law SumsJoins.
-/
import Derived.Test.YtjiljhijenbpbaaAlive
import Derived.Test.YtjiljhijenbpbaaMathJoins
set_option linter.unusedVariables false
set_option linter.unusedSimpArgs false
namespace Go.Proofs.Ytjiljhijenbpbaa
open Go.RowKit SumsMath

theorem min3_run (a b c n : Nat) (h : n = min (min a b) c) (W : World) : (Builtin.min_ #[3, 3, 3] 3 #[.int .i64 (a : Int), .int .i64 (b : Int), .int .i64 (c : Int)]).run Try.prog W = .ok (.int .i64 (n : Int)) W := by
  have e : (if (c : Int) < (if b < a then (b : Int) else a) then (c : Int) else (if b < a then (b : Int) else a)) = (n : Int) := by
    by_cases h1 : b < a
    · simp only [if_pos h1]; split <;> omega
    · simp only [if_neg h1]; split <;> omega
  simp [Builtin.min_, Builtin.min2]
  exact e
theorem take_snoc (l : List Int) (k : Nat) (h : k < l.length) : l.take (k + 1) = l.take k ++ [l.getD k 0] := by
  rw [List.take_succ_eq_append_getElem h]
  simp [List.getD_eq_getElem?_getD, List.getElem?_eq_getElem h]
theorem bytes_take {xs : List Int} (h : Bytes xs) (n : Nat) : Bytes (xs.take n) := by
  intro j
  by_cases hj : j < n
  · rw [List.getD_eq_getElem?_getD, List.getElem?_take, if_pos hj, ← List.getD_eq_getElem?_getD]; exact h j
  · rw [List.getD_eq_getElem?_getD, List.getElem?_take, if_neg hj]; exact ⟨by decide, by decide⟩
theorem getD_take (xs : List Int) (n k : Nat) (h : k < n) : (xs.take n).getD k 0 = xs.getD k 0 := by
  rw [List.getD_eq_getElem?_getD, List.getElem?_take, if_pos h, ← List.getD_eq_getElem?_getD]

/-- Two rows of the call's own, apart. -/
structure JS (w : World) (v u : Value) (k : Nat) (xs ys : List Int) (w' : World) : Prop where
  below : Below w.heap.size w w'
  ownv : w'.ownsRow w.heap.size 5 1 v k (nums .u8 xs)
  ownu : w'.ownsRow w.heap.size 5 1 u k (nums .u8 ys)
theorem JS.next {w w1 w2 : World} {v u : Value} {k : Nat} {xs ys : List Int} (h : JS w v u k xs ys w1) (hb : Below w1.heap.size w1 w2) : JS w v u k xs ys w2 :=
  ⟨h.below.trans (hb.mono h.below.size), own_keep h.ownv hb, own_keep h.ownu hb⟩
theorem JS.drew {w w1 : World} {v u : Value} {k : Nat} {xs ys : List Int} (h : JS w v u k xs ys w1) : JS w v u k xs ys w1.drew := h.next ((Below.refl _ _).drew)

theorem own_far {w w' : World} {base n : Nat} {e : TypeId} {size : Nat} {v u : Value} {xs : List Value} (h : w.ownsRow base e size u n xs) (hg : w.grownBy w' v.ownBlock) (hne : ∀ g, v.ownBlock = some g → u.ownBlock ≠ some g) : w'.ownsRow base e size u n xs := by
  refine h.kept hg ?_
  cases hu : u.ownBlock with
  | none => exact .inl rfl
  | some g => exact .inr (fun e => hne g e.symm hu)
theorem sep_next {w : World} {base n : Nat} {e : TypeId} {size : Nat} {v v1 u : Value} {xs : List Value} (hne : ∀ g, v.ownBlock = some g → u.ownBlock ≠ some g) (hu : w.ownsRow base e size u n xs) {s : Nat} (hat : v1.ownBlock = v.ownBlock ∨ v1.ownBlock = some s) (hs : w.heap.size ≤ s := by simp) : ∀ g, v1.ownBlock = some g → u.ownBlock ≠ some g := by
  intro g h1 h2
  rcases hat with h | h
  · exact hne g (h ▸ h1) h2
  · rw [h] at h1
    injection h1 with h1
    have := (hu.lt g h2).2
    omega

theorem own_rd' {w : World} {base n c : Nat} {e : TypeId} {k : IntKind} {A : Option Addr} {xs : List Int} (h : w.ownsRow base e 1 (.slice A n c) n (nums k xs)) : Reads w k A n xs := by
  obtain ⟨A', c', hv, _, hr⟩ := own_reads h
  injection hv with h1 _ _
  rw [h1]; exact hr
set_option maxHeartbeats 3200000 in
theorem joins_law (A B C : Option Addr) (n1 n2 n3 c1 c2 c3 : Nat) (xs ys zs : List Int) (w : World) (hx : Bytes xs) (hy : Bytes ys) (hz : Bytes zs) (hA : Reads w .u8 A n1 xs) (hB : Reads w .u8 B n2 ys) (hC : Reads w .u8 C n3 zs) (hc1 : n1 ≤ c1) (hc2 : n2 ≤ c2) (hc3 : n3 ≤ c3) :
    Calls Try.prog 8 #[.slice A n1 c1, .slice B n2 c2, .slice C n3 c3] w fun e w' => e = .returned (.bool true) ∧ Below w.heap.size w w' := by
  have hlen1 := hA.2.1
  have hlen2 := hB.2.1
  have hlen3 := hC.2.1
  obtain ⟨n, hn⟩ : ∃ n, n = min (min n1 n2) n3 := ⟨_, rfl⟩
  have hm1 : n ≤ n1 := by omega
  have hm2 : n ≤ n2 := by omega
  have hm3 : n ≤ n3 := by omega
  have hmin := min3_run n1 n2 n3 n hn
  clear hn
  by_cases hbig : 60000 < n
  · have hd : decide (60000 < (n : Int)) = true := decide_eq_true (by omega)
    clear hA hB hC
    go_enter Try.func8, Try.ntmps8
    go_wp2_with fail
    refine (alive_any _).mono ?_
    rintro e w1 ⟨rfl, hb1⟩
    go_wp2_with fail
    refine (alive_any _).mono ?_
    rintro e w2 ⟨rfl, hb2⟩
    go_wp2
    go_ret
    exact ⟨rfl, hb1.trans (hb2.mono hb1.size)⟩
  · have hd2 : decide (60000 < (n : Int)) = false := decide_eq_false (by omega)
    have HR : Aside ((Reads w .u8 A n (xs.take n) ∧ Reads w .u8 B n (ys.take n) ∧ Reads w .u8 C n (zs.take n)) ∧ Bytes (xs.take n) ∧ Bytes (ys.take n) ∧ Bytes (zs.take n)) := ⟨⟨hA.take_ n hm1, hB.take_ n hm2, hC.take_ n hm3⟩, bytes_take hx n, bytes_take hy n, bytes_take hz n⟩
    clear hA hB hC hx hy hz
    generalize xs.take n = xs at *
    generalize ys.take n = ys at *
    generalize zs.take n = zs at *
    have hl1 := HR.out.1.1.1
    have hl2 := HR.out.1.2.1.1
    have hl3 := HR.out.1.2.2.1
    have HP : Aside ((zipX (zipX xs ys) zs).length = n ∧ (zipX xs ys).length = n) := ⟨by rw [zipX_length _ _ (by rw [zipX_length _ _ (by omega)]; omega), zipX_length _ _ (by omega)]; omega, by rw [zipX_length _ _ (by omega)]; omega⟩
    have HG : Aside (∀ k, (zipX (zipX xs ys) zs).getD k 0 = X (X (xs.getD k 0) (ys.getD k 0)) (zs.getD k 0) ∧ (zipX xs ys).getD k 0 = X (xs.getD k 0) (ys.getD k 0)) := fun k => ⟨by rw [zipX_getD _ _ (by rw [zipX_length _ _ (by omega)]; omega), zipX_getD _ _ (by omega)], by rw [zipX_getD _ _ (by omega)]⟩
    have HJ1 : Aside (sumF 1 (zipX (zipX xs ys) zs) = X (X (sumF 1 xs) (sumF 1 ys)) (sumF 1 zs)) := joins1 xs ys zs (by omega) (by omega) HR.out.2.1 HR.out.2.2.1 HR.out.2.2.2
    have HJ2 : Aside (sumF 2 (zipX (zipX xs ys) zs) = X (X (sumF 2 xs) (sumF 2 ys)) (sumF 2 zs)) := joins2 xs ys zs (by omega) (by omega) HR.out.2.1 HR.out.2.2.1 HR.out.2.2.2
    have HJ4 : Aside (sumF 4 (zipX xs ys) = X (sumF 4 xs) (sumF 4 ys)) := joins4 xs ys (by omega) HR.out.2.1 HR.out.2.2.1
    have HBX : Aside (Bytes (zipX (zipX xs ys) zs) ∧ Bytes (zipX xs ys)) := ⟨zipX_bytes _ _ (by rw [zipX_length _ _ (by omega)]; omega) (zipX_bytes _ _ (by omega) HR.out.2.1 HR.out.2.2.1) HR.out.2.2.2, zipX_bytes _ _ (by omega) HR.out.2.1 HR.out.2.2.1⟩
    clear hl1 hl2 hl3
    generalize zipX (zipX xs ys) zs = ps at *
    generalize zipX xs ys = qs at *
    have hN0 : (0 : Int) ≤ (n : Int) := by omega
    have hN1 : (n : Int) ≤ (c1 : Int) := by omega
    have hN2 : (n : Int) ≤ (c2 : Int) := by omega
    have hN3 : (n : Int) ≤ (c3 : Int) := by omega
    go_enter Try.func8, Try.ntmps8
    go_wp2_with fail
    refine (alive_any _).mono ?_
    rintro e w1 ⟨rfl, hb1⟩
    have HS : JS w (.slice none 0 0) (.slice none 0 0) 0 [] [] w1 := ⟨hb1, World.ownsRow_nil _ _ _ _, World.ownsRow_nil _ _ _ _⟩
    clear hb1
    go_wp2
    go_loopw [8, 9, 10] (fun v u i wr => ∃ k : Nat, k ≤ n ∧ i = .int .i64 k ∧ Aside (JS w v u k (ps.take k) (qs.take k) wr ∧ ∀ g, v.ownBlock = some g → u.ownBlock ≠ some g)) (fun _ _ i _ => n - (intOf i).toNat)
    case atStart => exact ⟨0, Nat.zero_le _, rfl, ⟨by simpa using HS, fun g h => by cases h⟩⟩
    case round =>
      obtain ⟨k, hk, rfl, hJ⟩ := hrel
      clear HS
      by_cases hlt : k < n
      · have hB := hJ.out.1.below
        have hsz := hB.size
        obtain ⟨a, ha, hca0⟩ := HR.out.1.1.at_ (k : Int) (by omega) (by omega)
        obtain ⟨b, hb, hcb0⟩ := HR.out.1.2.1.at_ (k : Int) (by omega) (by omega)
        obtain ⟨c, hc, hcc0⟩ := HR.out.1.2.2.at_ (k : Int) (by omega) (by omega)
        have hba := HR.out.1.1.block_lt a ha (by omega)
        have hbb := HR.out.1.2.1.block_lt b hb (by omega)
        have hbc := HR.out.1.2.2.block_lt c hc (by omega)
        subst ha hb hc
        simp only [Int.toNat_natCast, rd] at hca0 hcb0 hcc0
        have hX := HR.out.2.1 k
        have hY := HR.out.2.2.1 k
        have hZ := HR.out.2.2.2 k
        have HSP : Aside (ps.take (k + 1) = ps.take k ++ [X (X (xs.getD k 0) (ys.getD k 0)) (zs.getD k 0)] ∧ qs.take (k + 1) = qs.take k ++ [X (xs.getD k 0) (ys.getD k 0)]) := ⟨by rw [take_snoc _ _ (by rw [HP.out.1]; exact hlt), (HG.out k).1], by rw [take_snoc _ _ (by rw [HP.out.2]; exact hlt), (HG.out k).2]⟩
        have HLL : Aside ((ps.take k).length = k ∧ (qs.take k).length = k) := ⟨by rw [List.length_take, HP.out.1]; omega, by rw [List.length_take, HP.out.2]; omega⟩
        generalize xs.getD k 0 = x at *
        generalize ys.getD k 0 = y at *
        generalize zs.getD k 0 = z at *
        have hxy := X_8 x y hX hY
        have e1 := X_u8 x y hX hY
        have e2 := X_u8 (X x y) z hxy hZ
        have hk0 : (0 : Int) ≤ (k : Int) := by omega
        have hk1 : (k : Int) < (n1 : Int) := by omega
        have hk2 : (k : Int) < (n2 : Int) := by omega
        have hk3 : (k : Int) < (n3 : Int) := by omega
        have hk4 : (k : Int) < (n : Int) := by omega
        have HC : Aside (∀ V, Below w.heap.size w V → V.cell? (a.add k) = some (.int .u8 x) ∧ V.cell? (b.add k) = some (.int .u8 y) ∧ V.cell? (c.add k) = some (.int .u8 z)) := fun V hV => ⟨(hV.cell (by rw [add_block]; exact hba)).trans hca0, (hV.cell (by rw [add_block]; exact hbb)).trans hcb0, (hV.cell (by rw [add_block]; exact hbc)).trans hcc0⟩
        clear hca0 hcb0 hcc0 hba hbb hbc hX hY hZ
        generalize hpx : X (X x y) z = px at *
        generalize hqx : X x y = qx at *
        obtain ⟨D, L, d, hv, HL⟩ := own_form hJ.out.1.ownv
        obtain ⟨D', L', d', hu, HL'⟩ := own_form hJ.out.1.ownu
        subst hv hu
        have q1 := (HC.out wr hB).1
        have q2 := (HC.out wr hB).2.1
        have q3 := (HC.out wr hB).2.2
        have HO1 : Aside ((wr.drew.alloc (.cells #[.int .u8 px] 5)).ownsRow w.heap.size 5 1 (.slice D L d) (ps.take k).length (nums .u8 (ps.take k))) := by
          rw [HLL.out.1]; exact hJ.out.1.drew.ownv.alloc _
        have HR1 : Aside (Reads (wr.drew.alloc (.cells #[.int .u8 px] 5)) .u8 (some ⟨wr.heap.size, 0, none⟩) 1 [px]) := reads_lit wr.drew .u8 5 [px] _ (0, 0) rfl (by simp)
        go_wp2_with fail
        go_region_held3 (fun w' => w'.cell? (a.add k) = some (.int .u8 x) ∧ w'.cell? (b.add k) = some (.int .u8 y) ∧ w'.cell? (c.add k) = some (.int .u8 z)) (first | go_keep | exact ⟨q1, q2, q3⟩)
          ((refine step_append_row w.heap.size (by rfl) _ _ 29 5 .u8 1 (by rfl) Try.underlying29 infoByte (by omega) (.slice D L d) (ps.take k) [px] _ 1 1 (by rfl) (by rfl) (by exact HO1.out) (by exact HR1.out) (by simp; omega) (by rw [HLL.out.1]; omega) ?_; intro v1 w3 hown1 hg1 hat1; have hB3 : Below w.heap.size w w3 := (hB.drew.alloc (by exact hsz) _).trans (own_grown HO1.out hg1 (by simp; omega)); have q1 := (HC.out w3 hB3).1; have q2 := (HC.out w3 hB3).2.1; have q3 := (HC.out w3 hB3).2.2; have hsep : ∀ g, v1.ownBlock = some g → (Value.slice D' L' d').ownBlock ≠ some g := sep_next hJ.out.2 hJ.out.1.drew.ownu hat1; have HU3 : Aside (w3.ownsRow w.heap.size 5 1 (.slice D' L' d') (qs.take k).length (nums .u8 (qs.take k))) := (by rw [HLL.out.2]; exact own_far (hJ.out.1.drew.ownu.alloc _) hg1 hJ.out.2)))
        clear q1 q2 q3
        have hs3 := hB3.size
        have q1 := (HC.out w3 hB3).1
        have q2 := (HC.out w3 hB3).2.1
        have q3 := (HC.out w3 hB3).2.2
        have hOv : Aside (w3.ownsRow w.heap.size 5 1 v1 (k + 1) (nums .u8 (ps.take (k + 1)))) := by
          have h := hown1
          rw [← HSP.out.1] at h
          have hl : (ps.take (k + 1)).length = k + 1 := by rw [List.length_take, HP.out.1]; omega
          rw [hl] at h
          exact h
        obtain ⟨D1, L1, d1, hv1, HL1⟩ := own_form hOv.out
        subst hv1
        have HO2 : Aside ((w3.drew.alloc (.cells #[.int .u8 qx] 5)).ownsRow w.heap.size 5 1 (.slice D' L' d') (qs.take k).length (nums .u8 (qs.take k))) := (own_keep HU3.out ((Below.refl _ _).drew)).alloc _
        have HR2 : Aside (Reads (w3.drew.alloc (.cells #[.int .u8 qx] 5)) .u8 (some ⟨w3.heap.size, 0, none⟩) 1 [qx]) := reads_lit w3.drew .u8 5 [qx] _ (0, 0) rfl (by simp)
        have HOV : Aside (w3.drew.ownsRow w.heap.size 5 1 (.slice D1 L1 d1) (k + 1) (nums .u8 (ps.take (k + 1)))) := own_keep hOv.out ((Below.refl _ _).drew)
        clear hown1 hg1 hat1
        go_wp2_with fail
        go_region_held3 (fun w' => w'.cell? (a.add k) = some (.int .u8 x) ∧ w'.cell? (b.add k) = some (.int .u8 y)) (first | go_keep | exact ⟨q1, q2⟩)
          ((refine step_append_row w.heap.size (by rfl) _ _ 29 5 .u8 1 (by rfl) Try.underlying29 infoByte (by omega) (.slice D' L' d') (qs.take k) [qx] _ 1 1 (by rfl) (by rfl) (by exact HO2.out) (by exact HR2.out) (by simp; omega) (by rw [HLL.out.2]; omega) ?_; intro v2 w4 hown2 hg2 hat2; have hB4 : Below w.heap.size w w4 := (hB3.drew.alloc (by exact hs3) _).trans (own_grown HO2.out hg2 (by simp; omega)); have q1 := (HC.out w4 hB4).1; have q2 := (HC.out w4 hB4).2.1))
        have hsep2 : ∀ g, v2.ownBlock = some g → (Value.slice D1 L1 d1).ownBlock ≠ some g := sep_next (fun g h1 h2 => hsep g h2 h1) (HOV.out) hat2
        have HV4 : w4.ownsRow w.heap.size 5 1 (.slice D1 L1 d1) (k + 1) (nums .u8 (ps.take (k + 1))) := own_far (HOV.out.alloc _) hg2 (fun g h1 h2 => hsep g h2 h1)
        have HU4 : w4.ownsRow w.heap.size 5 1 v2 (k + 1) (nums .u8 (qs.take (k + 1))) := by
          have h := hown2
          rw [← HSP.out.2] at h
          have hl : (qs.take (k + 1)).length = k + 1 := by rw [List.length_take, HP.out.2]; omega
          rw [hl] at h
          exact h
        have HFIN : Aside (JS w (.slice D1 L1 d1) v2 (k + 1) (ps.take (k + 1)) (qs.take (k + 1)) w4 ∧ ∀ g, (Value.slice D1 L1 d1).ownBlock = some g → v2.ownBlock ≠ some g) := ⟨⟨hB4, HV4, HU4⟩, fun g h1 h2 => hsep2 g h2 h1⟩
        clear hown2 hg2 hat2 HV4 HU4 hsep hsep2 q1 q2 q3
        go_wp2
        go_roundw
        case rel => exact ⟨k + 1, by omega, by go_num, HFIN.out⟩
        case measure => simp [intOf]; omega
      · obtain rfl : n = k := by omega
        have hp : ps.take n = ps := List.take_of_length_le (by rw [HP.out.1]; exact Nat.le_refl _)
        have hq : qs.take n = qs := List.take_of_length_le (by rw [HP.out.2]; exact Nat.le_refl _)
        rw [hp, hq] at hJ
        obtain ⟨D, L, d, hv, HL⟩ := own_form hJ.out.1.ownv
        obtain ⟨D', L', d', hu, HL'⟩ := own_form hJ.out.1.ownu
        subst hv hu
        obtain rfl : L = n := HL.out
        obtain rfl : L' = L := HL'.out
        have HJ : Aside (JS w (.slice D L' d) (.slice D' L' d') L' ps qs wr) := hJ.out.1
        clear hp hq hJ HL HL'
        have HA : Aside (∀ k V, JS w (.slice D L' d) (.slice D' L' d') L' ps qs V → Calls Try.prog 24 #[.int .i64 k, .slice D L' d] V fun e W' => e = .returned (.int .u64 (sumF k ps)) ∧ Below V.heap.size V W') := fun k V h => ofSum_any k D L' d ps (by omega) V HBX.out.1 (own_rd' h.ownv)
        have HB : Aside (∀ k V, JS w (.slice D L' d) (.slice D' L' d') L' ps qs V → Calls Try.prog 24 #[.int .i64 k, .slice A L' c1] V fun e W' => e = .returned (.int .u64 (sumF k xs)) ∧ Below V.heap.size V W') := fun k V h => ofSum_any k A L' c1 xs (by omega) V HR.out.2.1 (HR.out.1.1.below h.below)
        have HC : Aside (∀ k V, JS w (.slice D L' d) (.slice D' L' d') L' ps qs V → Calls Try.prog 24 #[.int .i64 k, .slice B L' c2] V fun e W' => e = .returned (.int .u64 (sumF k ys)) ∧ Below V.heap.size V W') := fun k V h => ofSum_any k B L' c2 ys (by omega) V HR.out.2.2.1 (HR.out.1.2.1.below h.below)
        have HD : Aside (∀ k V, JS w (.slice D L' d) (.slice D' L' d') L' ps qs V → Calls Try.prog 24 #[.int .i64 k, .slice C L' c3] V fun e W' => e = .returned (.int .u64 (sumF k zs)) ∧ Below V.heap.size V W') := fun k V h => ofSum_any k C L' c3 zs (by omega) V HR.out.2.2.2 (HR.out.1.2.2.below h.below)
        have HE : Aside (∀ k V, JS w (.slice D L' d) (.slice D' L' d') L' ps qs V → Calls Try.prog 24 #[.int .i64 k, .slice D' L' d'] V fun e W' => e = .returned (.int .u64 (sumF k qs)) ∧ Below V.heap.size V W') := fun k V h => ofSum_any k D' L' d' qs (by omega) V HBX.out.2 (own_rd' h.ownu)
        go_wp2
        go_loopw [11] (fun i wr => ∃ k : Int, 1 ≤ k ∧ k ≤ 3 ∧ i = .int .i64 k ∧ JS w (.slice D L' d) (.slice D' L' d') L' ps qs wr) (fun i _ => 4 - (intOf i).toNat)
        case atStart => exact ⟨1, by omega, by omega, rfl, HJ.out⟩
        case round =>
          obtain ⟨k, hk1, hk3, rfl, hJ⟩ := hrel
          clear HJ
          by_cases hk2 : k ≤ 2
          · have b1 := sumF_bd k xs HR.out.2.1
            have b2 := sumF_bd k ys HR.out.2.2.1
            have b3 := sumF_bd k zs HR.out.2.2.2
            have hE : sumF k ps = X (X (sumF k xs) (sumF k ys)) (sumF k zs) := by
              obtain rfl | rfl : k = 1 ∨ k = 2 := by omega
              · exact HJ1.out
              · exact HJ2.out
            have b12 := X_32 _ _ b1 b2
            have e1 := X_u64 _ _ b1 b2
            have e2 := X_u64 _ _ b12 b3
            rw [← hE] at e2
            have hA1 := HA.out k
            have hB1 := HB.out k
            have hC1 := HC.out k
            have hD1 := HD.out k
            generalize sumF k ps = sp at *
            generalize sumF k xs = sx at *
            generalize sumF k ys = sy at *
            generalize sumF k zs = sz at *
            generalize X sx sy = sxy at *
            clear hE b1 b2 b3 b12
            have HA1 : Aside _ := hA1
            have HB1 : Aside _ := hB1
            have HC1 : Aside _ := hC1
            have HD1 : Aside _ := hD1
            clear hA1 hB1 hC1 hD1
            have hJd := hJ.drew
            go_wp2_with fail
            go_region_held3 (fun w' => JS w (.slice D L' d) (.slice D' L' d') L' ps qs w') (first | exact hJd | exact JS.next (by assumption) hb5)
              ((go_simp; (first
                | (with_reducible refine (HA1.out _ (by assumption)).mono ?_; rintro e w5 ⟨rfl, hb5⟩)
                | (with_reducible refine (HB1.out _ (by assumption)).mono ?_; rintro e w5 ⟨rfl, hb5⟩)
                | (with_reducible refine (HC1.out _ (by assumption)).mono ?_; rintro e w5 ⟨rfl, hb5⟩)
                | (with_reducible refine (HD1.out _ (by assumption)).mono ?_; rintro e w5 ⟨rfl, hb5⟩))))
            have hJ5 : JS w (.slice D L' d) (.slice D' L' d') L' ps qs w5 := by assumption
            clear hJ hJd
            go_wp2
            go_roundw
            case rel => exact ⟨k + 1, by omega, by omega, by go_num, hJ5⟩
            case measure => simp [intOf]; omega
          · obtain rfl : k = 3 := by omega
            have b1 := sumF_bd 4 xs HR.out.2.1
            have b2 := sumF_bd 4 ys HR.out.2.2.1
            have hE : sumF 4 qs = X (sumF 4 xs) (sumF 4 ys) := HJ4.out
            have e1 := X_u64 _ _ b1 b2
            rw [← hE] at e1
            have hB1 := HB.out 4
            have hC1 := HC.out 4
            have hE1 := HE.out 4
            generalize sumF 4 qs = sq at *
            generalize sumF 4 xs = sx at *
            generalize sumF 4 ys = sy at *
            clear hE b1 b2
            have HB1 : Aside _ := hB1
            have HC1 : Aside _ := hC1
            have HE1 : Aside _ := hE1
            clear hB1 hC1 hE1
            have hJd := hJ.drew
            go_wp2_with fail
            go_region_held3 (fun w' => JS w (.slice D L' d) (.slice D' L' d') L' ps qs w') (first | exact hJd | exact JS.next (by assumption) hb5)
              ((go_simp; (first
                | (with_reducible refine (HE1.out _ (by assumption)).mono ?_; rintro e w5 ⟨rfl, hb5⟩)
                | (with_reducible refine (HB1.out _ (by assumption)).mono ?_; rintro e w5 ⟨rfl, hb5⟩)
                | (with_reducible refine (HC1.out _ (by assumption)).mono ?_; rintro e w5 ⟨rfl, hb5⟩))))
            have hJ5 : JS w (.slice D L' d) (.slice D' L' d') L' ps qs w5 := by assumption
            go_wp2
            go_ret
            exact ⟨rfl, hJ5.below⟩
end Go.Proofs.Ytjiljhijenbpbaa
