/-
  head, and the ways of the kinds: what they tell, and their walks.
-/
import Derived.Test.YtdfmeclhpefmfaaBaA
import Derived.Test.YtdfmeclhpefmfaaBaK3
import Derived.Test.YtdfmeclhpefmfaaBaK4
import Derived.Test.YtdfmeclhpefmfaaBaK5
import Derived.Test.YtdfmeclhpefmfaaBaK6
import Derived.Lib.SliceRun
set_option linter.unusedVariables false
set_option linter.unusedSimpArgs false
set_option maxRecDepth 100000
namespace Go.Proofs.Ytdfmeclhpefmfaa.Own
open Go.RowKit Go.Proofs.Ytdfmeclhpefmfaa.K YtdfmeclhpefmfaaW.PrintWords YtdfmeclhpefmfaaW.PrintLast YtdfmeclhpefmfaaW.PrintMore

def topU : Int := 18446744073709551615
def onesP (k : Int) : Int × Int :=
  if k ≤ 0 then (0, 0) else if k < 64 then (0, IntKind.u64.wrap ((shl .u64 1 k) - 1)) else if k < 128 then (IntKind.u64.wrap ((shl .u64 1 (k - 64)) - 1), topU) else (topU, topU)
theorem w_sub64 (k : Int) (h0 : 64 ≤ k) (h1 : k < 128) : wrap64 (k - 64) = k - 64 := by
  unfold wrap64
  omega
theorem ones_f (k : Int) : match_head_1.f k = some (onesP k) := by
  unfold match_head_1.f onesP topU
  by_cases h0 : k ≤ 0
  · rw [if_pos h0, if_pos h0]
  · rw [if_neg h0, if_neg h0]
    by_cases h1 : k < 64
    · rw [if_pos h1, if_pos h1, if_pos (by omega)]
    · rw [if_neg h1, if_neg h1]
      by_cases h2 : k < 128
      · rw [if_pos h2, if_pos h2, w_sub64 k (by omega) h2, if_pos (by omega)]
      · rw [if_neg h2, if_neg h2]
theorem ones_any (k : Int) (w : World) : Calls Try.prog 73 #[.int .i64 k] w fun e w' => e = .returned (.tuple #[.int .u64 (onesP k).1, .int .u64 (onesP k).2]) ∧ Drawn0 w w' :=
  match_head_1.calls k (onesP k).1 (onesP k).2 w (by rw [ones_f])
def headP (w n : Int) : Int × Int := (Go.bits .andNot .u64 (onesP w).1 (onesP (wrap64 (w - n))).1, Go.bits .andNot .u64 (onesP w).2 (onesP (wrap64 (w - n))).2)
theorem head_any (w n : Int) (W : World) : Calls Try.prog 61 #[.int .i64 w, .int .i64 n] W fun e w' => e = .returned (.tuple #[.int .u64 (headP w n).1, .int .u64 (headP w n).2]) ∧ Drawn0 W w' := by
  have H1 := Aside0.mk (ones_any w)
  have H2 := Aside0.mk (ones_any (wrap64 (w - n)))
  unfold headP
  generalize onesP w = p at *
  generalize onesP (wrap64 (w - n)) = q at *
  obtain ⟨p1, p2⟩ := p
  obtain ⟨q1, q2⟩ := q
  have hmf : True := trivial
  go_enter Try.func61, Try.ntmps61
  go_wp2_with fail
  refine Calls.mono (H1.out _) ?_
  rintro e w1 ⟨rfl, q1, rfl⟩
  go_wp2_with fail
  refine Calls.mono (H2.out _) ?_
  rintro e w2 ⟨rfl, q2, rfl⟩
  go_wp2
  go_ret2
  exact ⟨rfl, by repeat (first | exact Drawn0.refl _ | apply Drawn0.step)⟩

/-! ### what the ways of a kind tell -/
def okB (b : S40) : Bool := (bits_Check.f b.f0 b.f1 b.f2).getD false
theorem check_f (b : S40) : bits_Check.f b.f0 b.f1 b.f2 = some (okB b) := by
  unfold okB
  have : ∃ r, bits_Check.f b.f0 b.f1 b.f2 = some r := by
    unfold bits_Check.f bits_wide.f
    by_cases h1 : b.f0 ≥ 1
    · rw [if_pos h1]
      by_cases h2 : b.f0 ≤ 128
      · have hd : decide (b.f0 ≤ 128) = true := decide_eq_true h2
        simp only [hd, Option.bind_some, if_true]
        unfold bits_cut.f
        by_cases h3 : b.f0 < 64
        · rw [if_pos h3, if_pos (by omega)]
          exact ⟨_, rfl⟩
        · rw [if_neg h3, if_pos (by unfold wrap64; omega)]
          exact ⟨_, rfl⟩
      · have hd : decide (b.f0 ≤ 128) = false := decide_eq_false h2
        simp only [hd, Option.bind_some]
        exact ⟨_, rfl⟩
    · rw [if_neg h1]
      exact ⟨_, rfl⟩
  obtain ⟨r, h⟩ := this
  rw [h]
  rfl
def eqB (a b : S40) : Bool := a.f0 == b.f0 && (a.f1 == b.f1 && (a.f2 == b.f2))
def mostB (a b : S40) : Bool := decide (a.f1 < b.f1) || (a.f1 == b.f1 && decide (a.f2 ≤ b.f2))
def underB (v : S40) (h l : Int) (key : S40) : Bool := (Go.bits .and .u64 v.f1 h == Go.bits .and .u64 key.f1 h) && (Go.bits .and .u64 v.f2 l == Go.bits .and .u64 key.f2 l)
def bareB (m : S42) : Bool := m.f1.f0 == 0 && (m.f1.f1 == 0 && (m.f1.f2 == 0))
def maskedB (w : Int) (m : S42) : Bool := m.f2 == 0 && (okB m.f1 && m.f1.f0 == w)
/-- may an entry's key be, of a kind? -/
def mayB (kd w : Int) (m : S42) : Bool :=
  if kd = 1 then bareB m && m.f2 == 0
  else if kd = 2 then bareB m && (decide (0 ≤ m.f2) && (decide (m.f2 ≤ w) && (Go.bits .andNot .u64 m.f0.f1 (headP w m.f2).1 == 0 && Go.bits .andNot .u64 m.f0.f2 (headP w m.f2).2 == 0)))
  else if kd = 3 then maskedB w m && (Go.bits .andNot .u64 m.f0.f1 m.f1.f1 == 0 && Go.bits .andNot .u64 m.f0.f2 m.f1.f2 == 0)
  else maskedB w m && mostB m.f0 m.f1
/-- does a match of a kind match? -/
def hitsB (kd : Int) (m : S42) (key : S40) : Bool :=
  if kd = 1 then eqB m.f0 key
  else if kd = 2 then underB m.f0 (headP key.f0 (mn (mx m.f2 0) key.f0)).1 (headP key.f0 (mn (mx m.f2 0) key.f0)).2 key
  else if kd = 3 then m.f1.f0 == key.f0 && underB m.f0 m.f1.f1 m.f1.f2 key
  else m.f1.f0 == key.f0 && (mostB m.f0 key && mostB key m.f1)
theorem most_f (a b : S40) : match_most.f a.f0 a.f1 a.f2 b.f0 b.f1 b.f2 = some (mostB a b) := by
  unfold match_most.f mostB
  by_cases h1 : a.f1 < b.f1
  · simp [h1]
  · by_cases h2 : a.f1 = b.f1
    · simp [h1, h2]
    · simp [h1, h2]
theorem under_f (v mk : S40) (n h l : Int) (key : S40) : match_under.f v.f0 v.f1 v.f2 mk.f0 mk.f1 mk.f2 n h l key.f0 key.f1 key.f2 = some (underB v h l key) := by
  unfold match_under.f underB
  by_cases h1 : Go.bits .and .u64 v.f1 h = Go.bits .and .u64 key.f1 h
  · rw [if_pos h1, h1]
    simp
  · rw [if_neg h1]
    have : (Go.bits .and .u64 v.f1 h == Go.bits .and .u64 key.f1 h) = false := by simpa using h1
    rw [this]
    rfl
def bV (b : S40) : Value := .agg #[.int .i64 b.f0, .int .u64 b.f1, .int .u64 b.f2]
def mV (m : S42) : Value := .agg #[.int .i64 m.f0.f0, .int .u64 m.f0.f1, .int .u64 m.f0.f2, .int .i64 m.f1.f0, .int .u64 m.f1.f1, .int .u64 m.f1.f2, .int .i64 m.f2]
theorem Check_any (b : S40) (w : World) : Calls Try.prog 26 #[bV b] w fun e w' => e = .returned (.bool (okB b)) ∧ Below w.heap.size w w' := bits_Check.calls _ _ _ _ w (check_f b)
theorem most_any (a b : S40) (w : World) : Calls Try.prog 67 #[bV a, bV b] w fun e w' => e = .returned (.bool (mostB a b)) ∧ Below w.heap.size w w' := match_most.calls _ _ _ _ _ _ _ w (most_f a b)
theorem under_any (m : S42) (h l : Int) (key : S40) (w : World) : Calls Try.prog 63 #[mV m, .int .u64 h, .int .u64 l, bV key] w fun e w' => e = .returned (.bool (underB m.f0 h l key)) ∧ Below w.heap.size w w' := match_under.calls _ _ _ _ _ _ _ _ _ _ _ _ _ w (under_f m.f0 m.f1 m.f2 h l key)
theorem bare_any (m : S42) (w : World) : Calls Try.prog 56 #[mV m] w fun e w' => e = .returned (.bool (bareB m)) ∧ Below w.heap.size w w' := match_kinds_1.calls _ _ _ _ _ _ _ _ w rfl
theorem masked_any (wd : Int) (m : S42) (w : World) : Calls Try.prog 57 #[.int .i64 wd, mV m] w fun e w' => e = .returned (.bool (maskedB wd m)) ∧ Below w.heap.size w w' := match_kinds_2.calls _ _ _ _ _ _ _ _ _ w (by
  unfold match_kinds_2.f maskedB
  by_cases h : m.f2 = 0
  · rw [if_pos h, check_f m.f1]
    have : (m.f2 == 0) = true := by simpa using h
    rw [this]
    cases okB m.f1 <;> rfl
  · rw [if_neg h]
    have : (m.f2 == 0) = false := by simpa using h
    rw [this]
    rfl)
theorem hits1_any (m : S42) (key : S40) (w : World) : Calls Try.prog 59 #[mV m, bV key] w fun e w' => e = .returned (.bool (hitsB 1 m key)) ∧ Below w.heap.size w w' := match_kinds_4.calls _ _ _ _ _ _ _ _ _ _ _ w rfl
theorem hits3_any (m : S42) (key : S40) (w : World) : Calls Try.prog 65 #[mV m, bV key] w fun e w' => e = .returned (.bool (hitsB 3 m key)) ∧ Below w.heap.size w w' := match_kinds_8.calls _ _ _ _ _ _ _ _ _ _ _ w (by
  unfold match_kinds_8.f
  rw [under_f]
  show _ = some (m.f1.f0 == key.f0 && underB m.f0 m.f1.f1 m.f1.f2 key)
  by_cases h : m.f1.f0 = key.f0
  · rw [if_pos h]
    have : (m.f1.f0 == key.f0) = true := by simpa using h
    rw [this]
    rfl
  · rw [if_neg h]
    have : (m.f1.f0 == key.f0) = false := by simpa using h
    rw [this]
    rfl)
theorem hits4_any (m : S42) (key : S40) (w : World) : Calls Try.prog 68 #[mV m, bV key] w fun e w' => e = .returned (.bool (hitsB 4 m key)) ∧ Below w.heap.size w w' := match_kinds_10.calls _ _ _ _ _ _ _ _ _ _ _ w (by
  unfold match_kinds_10.f
  rw [most_f, most_f]
  show _ = some (m.f1.f0 == key.f0 && (mostB m.f0 key && mostB key m.f1))
  by_cases h : m.f1.f0 = key.f0
  · rw [if_pos h]
    have : (m.f1.f0 == key.f0) = true := by simpa using h
    rw [this]
    cases mostB m.f0 key <;> rfl
  · rw [if_neg h]
    have : (m.f1.f0 == key.f0) = false := by simpa using h
    rw [this]
    rfl)
end Go.Proofs.Ytdfmeclhpefmfaa.Own

/- The prefix's match, and the ways that lead to what is captured. -/
set_option linter.unusedVariables false
set_option linter.unusedSimpArgs false
set_option maxRecDepth 100000
namespace Go.Proofs.Ytdfmeclhpefmfaa.Own
open Go.RowKit Go.Proofs.Ytdfmeclhpefmfaa.K YtdfmeclhpefmfaaW.PrintWords YtdfmeclhpefmfaaW.PrintLast YtdfmeclhpefmfaaW.PrintMore

attribute [local go_sem] max2_int min2_int max_two min_two
set_option maxHeartbeats 800000 in
theorem hits2_any (m : S42) (key : S40) (w : World) : Calls Try.prog 62 #[mV m, bV key] w fun e w' => e = .returned (.bool (hitsB 2 m key)) ∧ Below w.heap.size w w' := by
  obtain ⟨hp, hhp⟩ : ∃ p, p = headP key.f0 (mn (mx m.f2 0) key.f0) := ⟨_, rfl⟩
  have H1 := Aside0.mk (head_any key.f0 (mn (mx m.f2 0) key.f0))
  have H2 := Aside0.mk (under_any m hp.1 hp.2 key)
  have hu42 := Try.underlying42
  have hu40 := Try.underlying40
  have hB := Aside0.mk (below_alloc (below_alloc (Below.refl w.heap.size w) (.cells #[.int .i64 m.f0.f0, .int .u64 m.f0.f1, .int .u64 m.f0.f2, .int .i64 m.f1.f0, .int .u64 m.f1.f1, .int .u64 m.f1.f2, .int .i64 m.f2] 42 (0,0))) (.cells #[.int .i64 key.f0, .int .u64 key.f1, .int .u64 key.f2] 40 (0,0)))
  show Calls _ _ _ _ (fun e w' => e = .returned (.bool (underB m.f0 (headP key.f0 (mn (mx m.f2 0) key.f0)).1 (headP key.f0 (mn (mx m.f2 0) key.f0)).2 key)) ∧ _)
  rw [← hhp]
  rw [← hhp] at H1
  clear hhp
  obtain ⟨p1, p2⟩ := hp
  obtain ⟨⟨v0, v1, v2⟩, ⟨k0, k1, k2⟩, n⟩ := m
  obtain ⟨c0, c1, c2⟩ := key
  simp only [mV, bV] at *
  generalize underB ⟨v0, v1, v2⟩ p1 p2 ⟨c0, c1, c2⟩ = r at *
  unfold mn mx at H1
  by_cases a : n < 0
  · rw [if_pos a] at H1
    have a1 : (n < 0) = True := eq_true a
    clear a
    by_cases b : c0 < 0
    · rw [if_pos b] at H1
      have b1 : (c0 < 0) = True := eq_true b
      clear b
      go_enter Try.func62, Try.ntmps62
      go_wp2_with fail
      refine Calls.mono (H1.out _) ?_
      rintro e w1 ⟨rfl, q1, rfl⟩
      go_wp2_with fail
      refine Calls.mono (H2.out _) ?_
      rintro e w2 ⟨rfl, hb⟩
      go_wp2
      go_ret
      exact ⟨rfl, (pw_below_drewN hB.out q1).trans (hb.mono (pw_below_drewN hB.out q1).size)⟩
    · rw [if_neg b] at H1
      have b1 : (c0 < 0) = False := eq_false b
      clear b
      go_enter Try.func62, Try.ntmps62
      go_wp2_with fail
      refine Calls.mono (H1.out _) ?_
      rintro e w1 ⟨rfl, q1, rfl⟩
      go_wp2_with fail
      refine Calls.mono (H2.out _) ?_
      rintro e w2 ⟨rfl, hb⟩
      go_wp2
      go_ret
      exact ⟨rfl, (pw_below_drewN hB.out q1).trans (hb.mono (pw_below_drewN hB.out q1).size)⟩
  · rw [if_neg a] at H1
    have a1 : (n < 0) = False := eq_false a
    clear a
    by_cases b : c0 < n
    · rw [if_pos b] at H1
      have b1 : (c0 < n) = True := eq_true b
      clear b
      go_enter Try.func62, Try.ntmps62
      go_wp2_with fail
      refine Calls.mono (H1.out _) ?_
      rintro e w1 ⟨rfl, q1, rfl⟩
      go_wp2_with fail
      refine Calls.mono (H2.out _) ?_
      rintro e w2 ⟨rfl, hb⟩
      go_wp2
      go_ret
      exact ⟨rfl, (pw_below_drewN hB.out q1).trans (hb.mono (pw_below_drewN hB.out q1).size)⟩
    · rw [if_neg b] at H1
      have b1 : (c0 < n) = False := eq_false b
      clear b
      go_enter Try.func62, Try.ntmps62
      go_wp2_with fail
      refine Calls.mono (H1.out _) ?_
      rintro e w1 ⟨rfl, q1, rfl⟩
      go_wp2_with fail
      refine Calls.mono (H2.out _) ?_
      rintro e w2 ⟨rfl, hb⟩
      go_wp2
      go_ret
      exact ⟨rfl, (pw_below_drewN hB.out q1).trans (hb.mono (pw_below_drewN hB.out q1).size)⟩
end Go.Proofs.Ytdfmeclhpefmfaa.Own

/- may, of each kind: closures that lead to bare and masked. -/
set_option linter.unusedVariables false
set_option linter.unusedSimpArgs false
set_option maxRecDepth 100000
namespace Go.Proofs.Ytdfmeclhpefmfaa.Own
open Go.RowKit Go.Proofs.Ytdfmeclhpefmfaa.K YtdfmeclhpefmfaaW.PrintWords YtdfmeclhpefmfaaW.PrintLast YtdfmeclhpefmfaaW.PrintMore

theorem below_box {w w' : World} (o : Obj) (h : Below (w.alloc o).heap.size (w.alloc o) w') : Below w.heap.size w w' :=
  (below_alloc (Below.refl w.heap.size w) o).trans (h.mono (by simp))
theorem blk_box {w : World} {p : Nat} {o : Obj} (h : w.heap[p]? = some o) (o' : Obj) : (w.alloc o').heap[p]? = some o := (Below.heap_alloc w o' p (Array.getElem?_eq_some_iff.1 h).1).trans h
def mCells (m : S42) : Array Value := #[.int .i64 m.f0.f0, .int .u64 m.f0.f1, .int .u64 m.f0.f2, .int .i64 m.f1.f0, .int .u64 m.f1.f1, .int .u64 m.f1.f2, .int .i64 m.f2]
set_option maxHeartbeats 800000 in
theorem may1_any (wd : Int) (m : S42) (p : Nat) (w : World) (hp : w.heap[p]? = some (.cells #[.func (.func 56) #[] #[]] 93 (0, 0))) :
    Calls Try.prog 58 #[.int .i64 wd, mV m, .pointer (some ⟨p, 0, none⟩)] w fun e w' => e = .returned (.bool (mayB 1 wd m)) ∧ Below w.heap.size w w' := by
  have H1 := Aside0.mk (bare_any m)
  have hu42 := Try.underlying42
  have hpb := cellOf (blk_box hp (.cells (mCells m) 42)) 0
  have hBx := Aside0.mk (fun w' => below_box (w := w) (w' := w') (.cells (mCells m) 42))
  have hblk : ∀ w', Below (w.alloc (.cells (mCells m) 42)).heap.size (w.alloc (.cells (mCells m) 42)) w' → w'.heap[w.heap.size]? = some (.cells (mCells m) 42 (0,0)) := fun w' hb => (hb.block _ (by simp)).trans (heap_alloc_new w _)
  have HBL := Aside0.mk hblk
  show Calls _ _ _ _ (fun e w' => e = .returned (.bool (bareB m && m.f2 == 0)) ∧ _)
  generalize bareB m = r at *
  clear hp hblk
  obtain ⟨⟨v0, v1, v2⟩, ⟨k0, k1, k2⟩, n⟩ := m
  simp only [mV, mCells] at *
  cases r with
  | false =>
    go_enter Try.func58, Try.ntmps58
    go_wp2_with fail
    refine Calls.mono (H1.out _) ?_
    rintro e w1 ⟨rfl, hb⟩
    go_wp2
    go_ret
    exact ⟨rfl, hBx.out _ hb⟩
  | true =>
    go_enter Try.func58, Try.ntmps58
    go_wp2_with fail
    refine Calls.mono (H1.out _) ?_
    rintro e w1 ⟨rfl, hb⟩
    have hm := HBL.out _ hb
    have f2 := cellOf hm 6
    go_wp2
    go_ret
    exact ⟨rfl, hBx.out _ hb⟩
set_option maxHeartbeats 1600000 in
theorem may2_any (wd : Int) (m : S42) (p : Nat) (w : World) (hp : w.heap[p]? = some (.cells #[.func (.func 56) #[] #[]] 93 (0, 0))) :
    Calls Try.prog 60 #[.int .i64 wd, mV m, .pointer (some ⟨p, 0, none⟩)] w fun e w' => e = .returned (.bool (mayB 2 wd m)) ∧ Below w.heap.size w w' := by
  have H1 := Aside0.mk (bare_any m)
  have H2 := Aside0.mk (head_any wd m.f2)
  have hu42 := Try.underlying42
  have hu40 := Try.underlying40
  have hpb := cellOf (blk_box hp (.cells (mCells m) 42)) 0
  have hBx := Aside0.mk (fun w' => below_box (w := w) (w' := w') (.cells (mCells m) 42))
  have hblk : ∀ w', Below (w.alloc (.cells (mCells m) 42)).heap.size (w.alloc (.cells (mCells m) 42)) w' → w'.heap[w.heap.size]? = some (.cells (mCells m) 42 (0,0)) := fun w' hb => (hb.block _ (by simp)).trans (heap_alloc_new w _)
  have HBL := Aside0.mk hblk
  show Calls _ _ _ _ (fun e w' => e = .returned (.bool (bareB m && (decide (0 ≤ m.f2) && (decide (m.f2 ≤ wd) && (Go.bits .andNot .u64 m.f0.f1 (headP wd m.f2).1 == 0 && Go.bits .andNot .u64 m.f0.f2 (headP wd m.f2).2 == 0))))) ∧ _)
  generalize bareB m = r at *
  generalize headP wd m.f2 = hp2 at *
  clear hp hblk
  obtain ⟨⟨v0, v1, v2⟩, ⟨k0, k1, k2⟩, n⟩ := m
  obtain ⟨p1, p2⟩ := hp2
  simp only [mV, mCells] at *
  cases r with
  | false =>
    go_enter Try.func60, Try.ntmps60
    go_wp2_with fail
    refine Calls.mono (H1.out _) ?_
    rintro e w1 ⟨rfl, hb⟩
    go_wp2
    go_ret
    exact ⟨rfl, hBx.out _ hb⟩
  | true =>
    by_cases a : n < 0
    · have a1 : decide (n < 0) = true := decide_eq_true a
      have a2 : decide (0 ≤ n) = false := decide_eq_false (by omega)
      rw [a2]
      clear a a2
      go_enter Try.func60, Try.ntmps60
      go_wp2_with fail
      refine Calls.mono (H1.out _) ?_
      rintro e w1 ⟨rfl, hb⟩
      have hm := HBL.out _ hb
      have f0 := cellOf hm 0
      have f1 := cellOf hm 1
      have f2 := cellOf hm 2
      have f3 := cellOf hm 3
      have f4 := cellOf hm 4
      have f5 := cellOf hm 5
      have f6 := cellOf hm 6
      go_wp2
      go_ret
      exact ⟨rfl, hBx.out _ hb⟩
    · have a1 : decide (n < 0) = false := decide_eq_false a
      have a2 : decide (0 ≤ n) = true := decide_eq_true (by omega)
      rw [a2]
      clear a a2
      by_cases b : wd < n
      · have b1 : decide (wd < n) = true := decide_eq_true b
        have b2 : decide (n ≤ wd) = false := decide_eq_false (by omega)
        rw [b2]
        clear b b2
        go_enter Try.func60, Try.ntmps60
        go_wp2_with fail
        refine Calls.mono (H1.out _) ?_
        rintro e w1 ⟨rfl, hb⟩
        have hm := HBL.out _ hb
        have f0 := cellOf hm 0
        have f1 := cellOf hm 1
        have f2 := cellOf hm 2
        have f3 := cellOf hm 3
        have f4 := cellOf hm 4
        have f5 := cellOf hm 5
        have f6 := cellOf hm 6
        go_wp2
        go_ret
        exact ⟨rfl, hBx.out _ hb⟩
      · have b1 : decide (wd < n) = false := decide_eq_false b
        have b2 : decide (n ≤ wd) = true := decide_eq_true (by omega)
        rw [b2]
        clear b b2
        generalize hc : (Go.bits .andNot .u64 v1 p1 == 0) = c at *
        generalize hd : (Go.bits .andNot .u64 v2 p2 == 0) = d at *
        cases c with
        | false =>
          go_enter Try.func60, Try.ntmps60
          go_wp2_with fail
          refine Calls.mono (H1.out _) ?_
          rintro e w1 ⟨rfl, hb⟩
          have hm := HBL.out _ hb
          have f0 := cellOf hm 0
          have f1 := cellOf hm 1
          have f2 := cellOf hm 2
          have f3 := cellOf hm 3
          have f4 := cellOf hm 4
          have f5 := cellOf hm 5
          have f6 := cellOf hm 6
          go_wp2_with fail
          refine Calls.mono (H2.out _) ?_
          rintro e w2 ⟨rfl, q2, rfl⟩
          go_wp2
          go_ret
          exact ⟨rfl, pw_below_drewN (hBx.out _ hb) q2⟩
        | true =>
          go_enter Try.func60, Try.ntmps60
          go_wp2_with fail
          refine Calls.mono (H1.out _) ?_
          rintro e w1 ⟨rfl, hb⟩
          have hm := HBL.out _ hb
          have f0 := cellOf hm 0
          have f1 := cellOf hm 1
          have f2 := cellOf hm 2
          have f3 := cellOf hm 3
          have f4 := cellOf hm 4
          have f5 := cellOf hm 5
          have f6 := cellOf hm 6
          go_wp2_with fail
          refine Calls.mono (H2.out _) ?_
          rintro e w2 ⟨rfl, q2, rfl⟩
          go_wp2
          go_ret
          exact ⟨rfl, pw_below_drewN (hBx.out _ hb) q2⟩
set_option maxHeartbeats 1600000 in
theorem may3_any (wd : Int) (m : S42) (p : Nat) (w : World) (hp : w.heap[p]? = some (.cells #[.func (.func 57) #[] #[]] 73 (0, 0))) :
    Calls Try.prog 64 #[.int .i64 wd, mV m, .pointer (some ⟨p, 0, none⟩)] w fun e w' => e = .returned (.bool (mayB 3 wd m)) ∧ Below w.heap.size w w' := by
  have H1 := Aside0.mk (masked_any wd m)
  have hu42 := Try.underlying42
  have hu40 := Try.underlying40
  have hpb := cellOf (blk_box hp (.cells (mCells m) 42)) 0
  have hBx := Aside0.mk (fun w' => below_box (w := w) (w' := w') (.cells (mCells m) 42))
  have hblk : ∀ w', Below (w.alloc (.cells (mCells m) 42)).heap.size (w.alloc (.cells (mCells m) 42)) w' → w'.heap[w.heap.size]? = some (.cells (mCells m) 42 (0,0)) := fun w' hb => (hb.block _ (by simp)).trans (heap_alloc_new w _)
  have HBL := Aside0.mk hblk
  show Calls _ _ _ _ (fun e w' => e = .returned (.bool (maskedB wd m && (Go.bits .andNot .u64 m.f0.f1 m.f1.f1 == 0 && Go.bits .andNot .u64 m.f0.f2 m.f1.f2 == 0))) ∧ _)
  generalize maskedB wd m = r at *
  clear hp hblk
  obtain ⟨⟨v0, v1, v2⟩, ⟨k0, k1, k2⟩, n⟩ := m
  simp only [mV, mCells] at *
  cases r with
  | false =>
    go_enter Try.func64, Try.ntmps64
    go_wp2_with fail
    refine Calls.mono (H1.out _) ?_
    rintro e w1 ⟨rfl, hb⟩
    go_wp2
    go_ret
    exact ⟨rfl, hBx.out _ hb⟩
  | true =>
    generalize hc : (Go.bits .andNot .u64 v1 k1 == 0) = c at *
    generalize hd : (Go.bits .andNot .u64 v2 k2 == 0) = d at *
    cases c with
    | false =>
      go_enter Try.func64, Try.ntmps64
      go_wp2_with fail
      refine Calls.mono (H1.out _) ?_
      rintro e w1 ⟨rfl, hb⟩
      have hm := HBL.out _ hb
      have f0 := cellOf hm 0
      have f1 := cellOf hm 1
      have f2 := cellOf hm 2
      have f3 := cellOf hm 3
      have f4 := cellOf hm 4
      have f5 := cellOf hm 5
      have f6 := cellOf hm 6
      go_wp2
      go_ret
      exact ⟨rfl, hBx.out _ hb⟩
    | true =>
      go_enter Try.func64, Try.ntmps64
      go_wp2_with fail
      refine Calls.mono (H1.out _) ?_
      rintro e w1 ⟨rfl, hb⟩
      have hm := HBL.out _ hb
      have f0 := cellOf hm 0
      have f1 := cellOf hm 1
      have f2 := cellOf hm 2
      have f3 := cellOf hm 3
      have f4 := cellOf hm 4
      have f5 := cellOf hm 5
      have f6 := cellOf hm 6
      go_wp2
      go_ret
      exact ⟨rfl, hBx.out _ hb⟩
set_option maxHeartbeats 1600000 in
theorem may4_any (wd : Int) (m : S42) (p : Nat) (w : World) (hp : w.heap[p]? = some (.cells #[.func (.func 57) #[] #[]] 73 (0, 0))) :
    Calls Try.prog 66 #[.int .i64 wd, mV m, .pointer (some ⟨p, 0, none⟩)] w fun e w' => e = .returned (.bool (mayB 4 wd m)) ∧ Below w.heap.size w w' := by
  have H1 := Aside0.mk (masked_any wd m)
  have H2 := Aside0.mk (most_any m.f0 m.f1)
  have hu42 := Try.underlying42
  have hu40 := Try.underlying40
  have hpb := cellOf (blk_box hp (.cells (mCells m) 42)) 0
  have hBx := Aside0.mk (fun w' => below_box (w := w) (w' := w') (.cells (mCells m) 42))
  have hblk : ∀ w', Below (w.alloc (.cells (mCells m) 42)).heap.size (w.alloc (.cells (mCells m) 42)) w' → w'.heap[w.heap.size]? = some (.cells (mCells m) 42 (0,0)) := fun w' hb => (hb.block _ (by simp)).trans (heap_alloc_new w _)
  have HBL := Aside0.mk hblk
  show Calls _ _ _ _ (fun e w' => e = .returned (.bool (maskedB wd m && mostB m.f0 m.f1)) ∧ _)
  generalize maskedB wd m = r at *
  generalize mostB m.f0 m.f1 = r2 at *
  clear hp hblk
  obtain ⟨⟨v0, v1, v2⟩, ⟨k0, k1, k2⟩, n⟩ := m
  simp only [mV, mCells, bV] at *
  cases r with
  | false =>
    go_enter Try.func66, Try.ntmps66
    go_wp2_with fail
    refine Calls.mono (H1.out _) ?_
    rintro e w1 ⟨rfl, hb⟩
    go_wp2
    go_ret
    exact ⟨rfl, hBx.out _ hb⟩
  | true =>
    go_enter Try.func66, Try.ntmps66
    go_wp2_with fail
    refine Calls.mono (H1.out _) ?_
    rintro e w1 ⟨rfl, hb⟩
    have hm := HBL.out _ hb
    have f0 := cellOf hm 0
    have f1 := cellOf hm 1
    have f2 := cellOf hm 2
    have f3 := cellOf hm 3
    have f4 := cellOf hm 4
    have f5 := cellOf hm 5
    have f6 := cellOf hm 6
    go_wp2_with fail
    refine Calls.mono (H2.out _) ?_
    rintro e w2 ⟨rfl, hb2⟩
    go_wp2
    go_ret
    exact ⟨rfl, (hBx.out _ hb).trans (hb2.mono (hBx.out _ hb).size)⟩
end Go.Proofs.Ytdfmeclhpefmfaa.Own

/- slices.IndexFunc, slices.ContainsFunc (written by gen/gen_m4.py). -/
set_option linter.unusedVariables false
set_option linter.unusedSimpArgs false
set_option maxRecDepth 100000
namespace Go.Proofs.Ytdfmeclhpefmfaa.Own
open Go.RowKit Go.Proofs.Ytdfmeclhpefmfaa.K YtdfmeclhpefmfaaW.PrintWords YtdfmeclhpefmfaaW.PrintLast YtdfmeclhpefmfaaW.PrintMore

/-- The first place where p holds; below 0: nowhere. -/
def fIdx {α : Type} (p : α → Bool) : List α → Int
  | [] => -1
  | x :: xs => if p x then 0 else (let r := fIdx p xs; if r < 0 then -1 else r + 1)
theorem fIdx_none {α : Type} (p : α → Bool) : ∀ l : List α, l.any p = false → fIdx p l = -1
  | [], _ => rfl
  | x :: xs, h => by
    simp only [List.any_cons, Bool.or_eq_false_iff] at h
    simp [fIdx, h.1, fIdx_none p xs h.2]
theorem fIdx_at {α : Type} (p : α → Bool) (z : α) : ∀ (l : List α) (k : Nat), (l.take k).any p = false → k < l.length → p (l.getD k z) = true → fIdx p l = (k : Int)
  | [], k, _, hk, _ => by simp at hk
  | x :: xs, 0, _, _, hp => by
    simp at hp
    simp [fIdx, hp]
  | x :: xs, k + 1, h, hk, hp => by
    simp only [List.take_succ_cons, List.any_cons, Bool.or_eq_false_iff] at h
    have := fIdx_at p z xs k h.2 (by simpa using hk) (by simpa using hp)
    simp only [fIdx, h.1, this]
    have h2 : ¬ ((k : Int) < 0) := by omega
    rw [if_neg h2]
    simp
theorem fIdx_any {α : Type} (p : α → Bool) : ∀ l : List α, decide (fIdx p l ≥ 0) = l.any p
  | [] => rfl
  | x :: xs => by
    have ih := fIdx_any p xs
    by_cases hx : p x = true
    · simp [fIdx, hx]
    · have hx' : p x = false := by simpa using hx
      simp only [fIdx, hx', List.any_cons, Bool.false_or, ← ih]
      by_cases h : fIdx p xs < 0
      · simp [h]
      · simp [h]; omega
theorem take_any {α : Type} (p : α → Bool) (z : α) (l : List α) (k : Nat) (hk : k < l.length) (h : (l.take k).any p = false) (hp : p (l.getD k z) = false) : (l.take (k + 1)).any p = false := by
  rw [List.take_add_one, List.any_append, h]
  rw [List.getElem?_eq_getElem hk]
  rw [List.getD_eq_getElem?_getD, List.getElem?_eq_getElem hk] at hp
  simpa using hp
def badK (k : Int) : Bool := decide (k < 1) || decide (k > 4)
def badW (k : Int) : Bool := decide (k < 1) || decide (k > 128)
theorem badK_any (k : Int) (w : World) : Calls Try.prog 48 #[.int .u8 k] w fun e w' => e = .returned (.bool (badK k)) ∧ Drawn0 w w' := match_Table_may_1.calls k _ w (by
  unfold match_Table_may_1.f badK
  by_cases h : k < 1
  · simp [h]
  · simp [h])
theorem badW_any (k : Int) (w : World) : Calls Try.prog 49 #[.int .i64 k] w fun e w' => e = .returned (.bool (badW k)) ∧ Drawn0 w w' := match_Table_may_2.calls k _ w (by
  unfold match_Table_may_2.f badW
  by_cases h : k < 1
  · simp [h]
  · simp [h])
def notOk (b : S40) : Bool := !okB b
theorem notOk_any (b : S40) (w : World) : Calls Try.prog 38 #[bV b] w fun e w' => e = .returned (.bool (notOk b)) ∧ Below w.heap.size w w' := match_Check_1.calls _ _ _ _ w (by
  unfold match_Check_1.f notOk
  rw [check_f]
  rfl)
theorem drawn_below {w w' : World} (h : Drawn0 w w') : Below w.heap.size w w' := by
  obtain ⟨q, rfl⟩ := h
  exact pw_below_drewN (Below.refl _ _) q

set_option maxHeartbeats 1600000 in
theorem idxK_any (A : Option Addr) (c : Nat) (l : List Int) (w : World) (hr : Kd.C (Kd.int .u8) w A l.length l) (hc : l.length ≤ c) :
    Calls Try.prog 70 #[.slice A l.length c, .func (.func 48) #[] #[]] w fun e w' => e = .returned (.int .i64 (fIdx badK l)) ∧ Below w.heap.size w w' := by
  have hu42 := Try.underlying42
  have hu40 := Try.underlying40
  have HR := Aside0.mk hr
  have hmx : l.length ≤ 9223372036854775807 := hr.2.1
  have H1 := Aside0.mk badK_any
  obtain ⟨n, hn⟩ : ∃ n, n = l.length := ⟨_, rfl⟩
  rw [← hn] at hmx hc
  have HN := Aside0.mk hn
  show Calls _ _ #[.slice A l.length c, _] _ _
  rw [← hn]
  clear hr hn
  go_enter Try.func70, Try.ntmps70
  go_wp2
  go_loopw [8] (fun i wr => ∃ k : Nat, k ≤ n ∧ i = .int .i64 k ∧ Aside0 ((l.take k).any badK = false ∧ Below w.heap.size w wr)) (fun i _ => n - (intOf i).toNat)
  case atStart => exact ⟨0, by omega, rfl, ⟨by simp, Below.refl _ _⟩⟩
  case round =>
    obtain ⟨k, hk, rfl, HI⟩ := hrel
    by_cases hlt : k < n
    · have g3 : decide ((k : Int) < (n : Int)) = true := decide_eq_true (by omega)
      have p0 : 0 ≤ (k : Int) := by omega
      have q0 : (k : Int) < (l.length : Int) := by rw [← HN.out]; omega
      have hCw : Kd.C (Kd.int .u8) wr A l.length l := Kd.C_below HR.out HI.out.2
      have HX1 := Aside0.mk (fIdx_at badK 0 l k HI.out.1 (by rw [← HN.out]; exact hlt))
      have HX2 := Aside0.mk (take_any badK 0 l k (by rw [← HN.out]; exact hlt) HI.out.1)
      obtain ⟨ad, rfl, hx0⟩ := Kd.at_int hCw (k : Int) p0 q0
      have hx : wr.cell? (ad.add k) = some (.int .u8 (l.getD k 0)) := hx0
      clear hx0
      clear p0 q0 hCw HR
      generalize l.getD k 0 = x at *
      cases hp : badK x with
      | true =>
        have HF := Aside0.mk (HX1.out hp)
        have HC1 := Aside0.mk (H1.out x wr)
        rw [hp] at HC1
        clear hp HX1 HX2 H1
        go_wp2_with fail
        refine Calls.mono HC1.out ?_
        rintro e w2 ⟨rfl, hd0⟩
        have hd := drawn_below hd0
        clear hd0
        go_wp2
        go_ret
        exact ⟨by rw [HF.out]; rfl, HI.out.2.trans (hd.mono HI.out.2.size)⟩
      | false =>
        have HF := Aside0.mk (HX2.out hp)
        have HC1 := Aside0.mk (H1.out x wr)
        rw [hp] at HC1
        clear hp HX1 HX2 H1
        go_wp2_with fail
        refine Calls.mono HC1.out ?_
        rintro e w2 ⟨rfl, hd0⟩
        have hd := drawn_below hd0
        clear hd0
        go_wp2
        go_roundw
        case rel => exact ⟨k + 1, by omega, by go_num, HF.out, HI.out.2.trans (hd.mono HI.out.2.size)⟩
        case measure => (simp [intOf]; omega)
    · obtain rfl : k = n := by omega
      have g3 : decide ((k : Int) < (k : Int)) = false := decide_eq_false (by omega)
      have HF := Aside0.mk (fIdx_none badK l (by have := HI.out.1; rwa [HN.out, List.take_length] at this))
      clear H1 HR
      go_wp2
      go_ret
      exact ⟨by rw [HF.out]; rfl, HI.out.2⟩

set_option maxHeartbeats 1600000 in
theorem idxW_any (A : Option Addr) (c : Nat) (l : List Int) (w : World) (hr : Kd.C (Kd.int .i64) w A l.length l) (hc : l.length ≤ c) :
    Calls Try.prog 71 #[.slice A l.length c, .func (.func 49) #[] #[]] w fun e w' => e = .returned (.int .i64 (fIdx badW l)) ∧ Below w.heap.size w w' := by
  have hu42 := Try.underlying42
  have hu40 := Try.underlying40
  have HR := Aside0.mk hr
  have hmx : l.length ≤ 9223372036854775807 := hr.2.1
  have H1 := Aside0.mk badW_any
  obtain ⟨n, hn⟩ : ∃ n, n = l.length := ⟨_, rfl⟩
  rw [← hn] at hmx hc
  have HN := Aside0.mk hn
  show Calls _ _ #[.slice A l.length c, _] _ _
  rw [← hn]
  clear hr hn
  go_enter Try.func71, Try.ntmps71
  go_wp2
  go_loopw [8] (fun i wr => ∃ k : Nat, k ≤ n ∧ i = .int .i64 k ∧ Aside0 ((l.take k).any badW = false ∧ Below w.heap.size w wr)) (fun i _ => n - (intOf i).toNat)
  case atStart => exact ⟨0, by omega, rfl, ⟨by simp, Below.refl _ _⟩⟩
  case round =>
    obtain ⟨k, hk, rfl, HI⟩ := hrel
    by_cases hlt : k < n
    · have g3 : decide ((k : Int) < (n : Int)) = true := decide_eq_true (by omega)
      have p0 : 0 ≤ (k : Int) := by omega
      have q0 : (k : Int) < (l.length : Int) := by rw [← HN.out]; omega
      have hCw : Kd.C (Kd.int .i64) wr A l.length l := Kd.C_below HR.out HI.out.2
      have HX1 := Aside0.mk (fIdx_at badW 0 l k HI.out.1 (by rw [← HN.out]; exact hlt))
      have HX2 := Aside0.mk (take_any badW 0 l k (by rw [← HN.out]; exact hlt) HI.out.1)
      obtain ⟨ad, rfl, hx0⟩ := Kd.at_int hCw (k : Int) p0 q0
      have hx : wr.cell? (ad.add k) = some (.int .i64 (l.getD k 0)) := hx0
      clear hx0
      clear p0 q0 hCw HR
      generalize l.getD k 0 = x at *
      cases hp : badW x with
      | true =>
        have HF := Aside0.mk (HX1.out hp)
        have HC1 := Aside0.mk (H1.out x wr)
        rw [hp] at HC1
        clear hp HX1 HX2 H1
        go_wp2_with fail
        refine Calls.mono HC1.out ?_
        rintro e w2 ⟨rfl, hd0⟩
        have hd := drawn_below hd0
        clear hd0
        go_wp2
        go_ret
        exact ⟨by rw [HF.out]; rfl, HI.out.2.trans (hd.mono HI.out.2.size)⟩
      | false =>
        have HF := Aside0.mk (HX2.out hp)
        have HC1 := Aside0.mk (H1.out x wr)
        rw [hp] at HC1
        clear hp HX1 HX2 H1
        go_wp2_with fail
        refine Calls.mono HC1.out ?_
        rintro e w2 ⟨rfl, hd0⟩
        have hd := drawn_below hd0
        clear hd0
        go_wp2
        go_roundw
        case rel => exact ⟨k + 1, by omega, by go_num, HF.out, HI.out.2.trans (hd.mono HI.out.2.size)⟩
        case measure => (simp [intOf]; omega)
    · obtain rfl : k = n := by omega
      have g3 : decide ((k : Int) < (k : Int)) = false := decide_eq_false (by omega)
      have HF := Aside0.mk (fIdx_none badW l (by have := HI.out.1; rwa [HN.out, List.take_length] at this))
      clear H1 HR
      go_wp2
      go_ret
      exact ⟨by rw [HF.out]; rfl, HI.out.2⟩

set_option maxHeartbeats 1600000 in
theorem idxB_any (A : Option Addr) (c : Nat) (l : List S40) (w : World) (hr : Kd.C k40 w A l.length l) (hc : l.length ≤ c) :
    Calls Try.prog 69 #[.slice A l.length c, .func (.func 38) #[] #[]] w fun e w' => e = .returned (.int .i64 (fIdx notOk l)) ∧ Below w.heap.size w w' := by
  have hu42 := Try.underlying42
  have hu40 := Try.underlying40
  have HR := Aside0.mk hr
  have hmx : l.length ≤ 9223372036854775807 := hr.2.1
  have H1 := Aside0.mk notOk_any
  obtain ⟨n, hn⟩ : ∃ n, n = l.length := ⟨_, rfl⟩
  rw [← hn] at hmx hc
  have HN := Aside0.mk hn
  show Calls _ _ #[.slice A l.length c, _] _ _
  rw [← hn]
  clear hr hn
  go_enter Try.func69, Try.ntmps69
  go_wp2
  go_loopw [8] (fun i wr => ∃ k : Nat, k ≤ n ∧ i = .int .i64 k ∧ Aside0 ((l.take k).any notOk = false ∧ Below w.heap.size w wr)) (fun i _ => n - (intOf i).toNat)
  case atStart => exact ⟨0, by omega, rfl, ⟨by simp, Below.refl _ _⟩⟩
  case round =>
    obtain ⟨k, hk, rfl, HI⟩ := hrel
    by_cases hlt : k < n
    · have g3 : decide ((k : Int) < (n : Int)) = true := decide_eq_true (by omega)
      have p0 : 0 ≤ (k : Int) := by omega
      have q0 : (k : Int) < (l.length : Int) := by rw [← HN.out]; omega
      have hCw : Kd.C k40 wr A l.length l := Kd.C_below HR.out HI.out.2
      have HX1 := Aside0.mk (fIdx_at notOk z40 l k HI.out.1 (by rw [← HN.out]; exact hlt))
      have HX2 := Aside0.mk (take_any notOk z40 l k (by rw [← HN.out]; exact hlt) HI.out.1)
      obtain ⟨ad, rfl, hx0, hx1, hx2⟩ := at_T40 hCw (k : Int) p0 q0
      rw [Int.toNat_natCast] at hx0 hx1 hx2
      simp only [rd_T40, Int.toNat_natCast] at hx0 hx1 hx2
      clear p0 q0 hCw HR
      generalize l.getD k z40 = x at *
      cases hp : notOk x with
      | true =>
        have HF := Aside0.mk (HX1.out hp)
        have HC1 := Aside0.mk (H1.out x wr)
        rw [hp] at HC1
        clear hp HX1 HX2 H1
        obtain ⟨x0, x1, x2⟩ := x
        simp only [bV] at *
        go_wp2_with fail
        refine Calls.mono HC1.out ?_
        rintro e w2 ⟨rfl, hd0⟩
        have hd := hd0
        clear hd0
        go_wp2
        go_ret
        exact ⟨by rw [HF.out]; rfl, HI.out.2.trans (hd.mono HI.out.2.size)⟩
      | false =>
        have HF := Aside0.mk (HX2.out hp)
        have HC1 := Aside0.mk (H1.out x wr)
        rw [hp] at HC1
        clear hp HX1 HX2 H1
        obtain ⟨x0, x1, x2⟩ := x
        simp only [bV] at *
        go_wp2_with fail
        refine Calls.mono HC1.out ?_
        rintro e w2 ⟨rfl, hd0⟩
        have hd := hd0
        clear hd0
        go_wp2
        go_roundw
        case rel => exact ⟨k + 1, by omega, by go_num, HF.out, HI.out.2.trans (hd.mono HI.out.2.size)⟩
        case measure => (simp [intOf]; omega)
    · obtain rfl : k = n := by omega
      have g3 : decide ((k : Int) < (k : Int)) = false := decide_eq_false (by omega)
      have HF := Aside0.mk (fIdx_none notOk l (by have := HI.out.1; rwa [HN.out, List.take_length] at this))
      clear H1 HR
      go_wp2
      go_ret
      exact ⟨by rw [HF.out]; rfl, HI.out.2⟩

theorem contK_any (A : Option Addr) (c : Nat) (l : List Int) (w : World) (hr : Kd.C (Kd.int .u8) w A l.length l) (hc : l.length ≤ c) :
    Calls Try.prog 50 #[.slice A l.length c, .func (.func 48) #[] #[]] w fun e w' => e = .returned (.bool (l.any badK)) ∧ Below w.heap.size w w' := by
  have H1 := Aside0.mk (idxK_any A c l w hr hc)
  rw [← fIdx_any]
  generalize fIdx badK l = r at *
  generalize l.length = n at *
  clear hr hc
  go_enter Try.func50, Try.ntmps50
  go_wp2_with fail
  refine Calls.mono H1.out ?_
  rintro e w2 ⟨rfl, hd⟩
  go_wp2
  go_ret
  exact ⟨by simp, hd⟩

theorem contW_any (A : Option Addr) (c : Nat) (l : List Int) (w : World) (hr : Kd.C (Kd.int .i64) w A l.length l) (hc : l.length ≤ c) :
    Calls Try.prog 51 #[.slice A l.length c, .func (.func 49) #[] #[]] w fun e w' => e = .returned (.bool (l.any badW)) ∧ Below w.heap.size w w' := by
  have H1 := Aside0.mk (idxW_any A c l w hr hc)
  rw [← fIdx_any]
  generalize fIdx badW l = r at *
  generalize l.length = n at *
  clear hr hc
  go_enter Try.func51, Try.ntmps51
  go_wp2_with fail
  refine Calls.mono H1.out ?_
  rintro e w2 ⟨rfl, hd⟩
  go_wp2
  go_ret
  exact ⟨by simp, hd⟩

theorem contB_any (A : Option Addr) (c : Nat) (l : List S40) (w : World) (hr : Kd.C k40 w A l.length l) (hc : l.length ≤ c) :
    Calls Try.prog 37 #[.slice A l.length c, .func (.func 38) #[] #[]] w fun e w' => e = .returned (.bool (l.any notOk)) ∧ Below w.heap.size w w' := by
  have H1 := Aside0.mk (idxB_any A c l w hr hc)
  rw [← fIdx_any]
  generalize fIdx notOk l = r at *
  generalize l.length = n at *
  clear hr hc
  go_enter Try.func37, Try.ntmps37
  go_wp2_with fail
  refine Calls.mono H1.out ?_
  rintro e w2 ⟨rfl, hd⟩
  go_wp2
  go_ret
  exact ⟨by simp, hd⟩
end Go.Proofs.Ytdfmeclhpefmfaa.Own

/- A table's count, weighs, the place of a kind; what may tells: plain. -/
set_option linter.unusedVariables false
set_option linter.unusedSimpArgs false
set_option maxRecDepth 100000
namespace Go.Proofs.Ytdfmeclhpefmfaa.Own
open Go.RowKit Go.Proofs.Ytdfmeclhpefmfaa.K YtdfmeclhpefmfaaW.PrintWords YtdfmeclhpefmfaaW.PrintLast YtdfmeclhpefmfaaW.PrintMore

theorem w_add1 (j : Nat) (h : j < 9223372036854775807) : wrap64 ((j : Int) + 1) = ((j + 1 : Nat) : Int) := by
  unfold wrap64
  omega
theorem rd_nat (l : List Int) (j : Nat) : YtdfmeclhpefmfaaW.PrintWords.rd l (j : Int) = l.getD j 0 := rfl

def kIdx (l : List Int) (a : Int) : Int := fIdx (fun x => decide (a = x)) l
theorem index_f (l : List Int) (a : Int) (hl : l.length ≤ 9223372036854775807) : ∀ (m j fuel : Nat), m = l.length - j → j ≤ l.length → (l.take j).any (fun x => decide (a = x)) = false → m < fuel →
    api_KeyKind_29.l0 fuel l a (l.length : Int) (j : Int) = some (kIdx l a)
  | m, j, 0, _, _, _, h => by omega
  | 0, j, fuel + 1, hm, hj, ht, _ => by
    have e : j = l.length := by omega
    simp only [api_KeyKind_29.l0]
    rw [if_neg (by omega)]
    rw [kIdx, fIdx_none _ l (by rw [e, List.take_length] at ht; exact ht)]
  | m + 1, j, fuel + 1, hm, hj, ht, hf => by
    simp only [api_KeyKind_29.l0]
    rw [if_pos (by omega), if_pos (by omega), if_pos (by omega), rd_nat]
    by_cases h : a = l.getD j 0
    · rw [if_pos h, kIdx, fIdx_at _ 0 l j ht (by omega) (by simpa using h)]
    · rw [if_neg h, w_add1 j (by omega)]
      exact index_f l a hl m (j + 1) fuel (by omega) (by omega) (take_any _ 0 l j (by omega) ht (by simpa using h)) (by omega)
theorem index_tot (l : List Int) (a : Int) (hl : l.length ≤ 9223372036854775807) (fuel : Nat) (hf : l.length < fuel) : api_KeyKind_29.f fuel l a = some (kIdx l a) :=
  index_f l a hl l.length 0 fuel (by omega) (by omega) rfl hf
def hasK (sel : List Int) (a : Int) : Bool := sel.any (fun x => decide (a = x))
theorem has_tot (l : List Int) (a : Int) (hl : l.length ≤ 9223372036854775807) (fuel : Nat) (hf : l.length < fuel) : api_KeyKind_72.f fuel l a = some (hasK l a) := by
  unfold api_KeyKind_72.f
  rw [index_tot l a hl fuel hf, kIdx]
  show some (decide (_ ≥ 0)) = _
  rw [fIdx_any]
  rfl
def countK (sel : List Int) (ks : List Int) : Nat := (ks.filter (hasK sel)).length
theorem countK_step (sel ks : List Int) (j : Nat) (hj : j < ks.length) : countK sel (ks.drop j) = (if hasK sel (ks.getD j 0) then 1 else 0) + countK sel (ks.drop (j + 1)) := by
  rw [List.drop_eq_getElem_cons hj, List.getD_eq_getElem?_getD, List.getElem?_eq_getElem hj]
  unfold countK
  simp only [List.filter_cons, Option.getD_some]
  by_cases h : hasK sel ks[j] = true
  · rw [if_pos h, if_pos h, List.length_cons]
    omega
  · rw [if_neg h, if_neg h, Nat.zero_add]
theorem countK_le (sel : List Int) (ks : List Int) : countK sel ks ≤ ks.length := List.length_filter_le _ _
theorem count_f (ks sel : List Int) (hk : ks.length ≤ 9223372036854775807) (hs : sel.length ≤ 9223372036854775807) : ∀ (m j fuel : Nat) (acc : Nat), m = ks.length - j → j ≤ ks.length → acc ≤ j → m + sel.length + 1 < fuel →
    match_Table_count.l0 fuel sel (acc : Int) ks (ks.length : Int) (j : Int) = some ((acc + countK sel (ks.drop j) : Nat) : Int)
  | m, j, 0, acc, _, _, _, h => by omega
  | 0, j, fuel + 1, acc, hm, hj, ha, _ => by
    simp only [match_Table_count.l0]
    rw [if_neg (by omega), List.drop_eq_nil_of_le (by omega)]
    rfl
  | m + 1, j, fuel + 1, acc, hm, hj, ha, hf => by
    simp only [match_Table_count.l0]
    rw [if_pos (by omega), if_pos (by omega), if_pos (by omega), rd_nat, has_tot sel _ hs fuel (by omega), Option.bind_some, countK_step sel ks j (by omega), w_add1 j (by omega)]
    cases hasK sel (ks.getD j 0) with
    | true =>
      rw [if_pos rfl, w_add1 acc (by omega), count_f ks sel hk hs m (j + 1) fuel (acc + 1) (by omega) (by omega) (by omega) (by omega), if_pos rfl]
      congr 2
      omega
    | false =>
      rw [if_neg (by simp), count_f ks sel hk hs m (j + 1) fuel acc (by omega) (by omega) (by omega) (by omega), if_neg (by simp)]
      congr 2
      omega
theorem count_tot (ks ws : List Int) (sz : Int) (sel : List Int) (hk : ks.length ≤ 9223372036854775807) (hs : sel.length ≤ 9223372036854775807) : match_Table_count.f (ks.length + sel.length + 2) ks ws sz sel = some (countK sel ks : Int) := by
  have := count_f ks sel hk hs ks.length 0 (ks.length + sel.length + 2) 0 (by omega) (by omega) (by omega) (by omega)
  simpa [match_Table_count.f] using this
def weighsB (ks : List Int) : Bool := decide (0 < countK [3, 4] ks)
theorem weighs_tot (ks ws : List Int) (sz : Int) (hk : ks.length ≤ 9223372036854775807) : match_Table_weighs.f (ks.length + 4) ks ws sz = some (weighsB ks) := by
  unfold match_Table_weighs.f
  rw [show ks.length + 4 = ks.length + ([3, 4] : List Int).length + 2 from rfl, count_tot ks ws sz [3, 4] hk (by decide)]
  simp [weighsB]
/-- What came in as a table. -/
structure TabAt (w : World) (A : Option Addr) (c : Nat) (ks : List Int) (B : Option Addr) (d : Nat) (ws : List Int) : Prop where
  hk : Kd.C (Kd.int .u8) w A ks.length ks
  hc : ks.length ≤ c
  hw : Kd.C (Kd.int .i64) w B ws.length ws
  hd : ws.length ≤ d
theorem TabAt.below {w w1 : World} {A : Option Addr} {c : Nat} {ks : List Int} {B : Option Addr} {d : Nat} {ws : List Int} (h : TabAt w A c ks B d ws) (hb : Below w.heap.size w w1) : TabAt w1 A c ks B d ws :=
  ⟨Kd.C_below h.hk hb, h.hc, Kd.C_below h.hw hb, h.hd⟩
theorem weighs_any {A : Option Addr} {c : Nat} {ks : List Int} {B : Option Addr} {d : Nat} {ws : List Int} (sz : Int) (w : World) (h : TabAt w A c ks B d ws) :
    Calls Try.prog 31 #[.agg #[.slice A ks.length c, .slice B ws.length d, .int .i64 sz]] w fun e w' => e = .returned (.bool (weighsB ks)) ∧ Below w.heap.size w w' :=
  match_Table_weighs.calls _ A c ks B d ws sz _ w h.hk h.hc h.hw h.hd (weighs_tot ks ws sz h.hk.2.1)
theorem count2_any {A : Option Addr} {c : Nat} {ks : List Int} {B : Option Addr} {d : Nat} {ws : List Int} (sz : Int) (w : World) (h : TabAt w A c ks B d ws) (A1 : Option Addr) (c1 : Nat) (sel : List Int) (hs : Kd.C (Kd.int .u8) w A1 sel.length sel) (hs1 : sel.length ≤ c1) :
    Calls Try.prog 52 #[.agg #[.slice A ks.length c, .slice B ws.length d, .int .i64 sz], .slice A1 sel.length c1] w fun e w' => e = .returned (.int .i64 (countK sel ks : Int)) ∧ Below w.heap.size w w' :=
  match_Table_count.calls _ A c ks B d ws sz A1 c1 sel _ w h.hk h.hc h.hw h.hd hs hs1 (count_tot ks ws sz sel h.hk.2.1 hs.2.1)
theorem index_any {A : Option Addr} {c : Nat} (ks : List Int) (a : Int) (w : World) (h : Kd.C (Kd.int .u8) w A ks.length ks) (hc : ks.length ≤ c) :
    Calls Try.prog 29 #[.slice A ks.length c, .int .u8 a] w fun e w' => e = .returned (.int .i64 (kIdx ks a)) ∧ Drawn0 w w' :=
  api_KeyKind_29.calls (ks.length + 1) A c ks a _ w h hc (index_tot ks a h.2.1 _ (by omega))
/-- may a table be? -/
def tmayB (ks ws : List Int) (sz : Int) : Bool :=
  decide (ks.length ≤ 64) && (ks.length == ws.length && (decide (1 ≤ sz) && (decide (sz ≤ 4096) && (!(ks.any badK) && (!(ws.any badW) && decide (countK [2] ks ≤ 1))))))
end Go.Proofs.Ytdfmeclhpefmfaa.Own

/- (Table).may (written by gen/gen_m6.py). -/
set_option linter.unusedVariables false
set_option linter.unusedSimpArgs false
set_option maxRecDepth 100000
namespace Go.Proofs.Ytdfmeclhpefmfaa.Own
open Go.RowKit Go.Proofs.Ytdfmeclhpefmfaa.K YtdfmeclhpefmfaaW.PrintWords YtdfmeclhpefmfaaW.PrintLast YtdfmeclhpefmfaaW.PrintMore

theorem ints_C {w : World} {k : IntKind} {g : Nat} {e : TypeId} {fr : Nat × Nat} (xs : List Int) (h : w.heap[g]? = some (.cells (xs.map fun x => Value.int k x).toArray e fr)) (hn : xs.length ≤ 9223372036854775807) : Kd.C (Kd.int k) w (some ⟨g, 0, none⟩) xs.length xs := by
  refine ⟨rfl, hn, fun _ => ⟨_, rfl, fun j p hj => ⟨[.int k p], rfl, rfl, fun i u hu => ?_⟩⟩⟩
  match i, hu with
  | 0, hu =>
    injection hu with hu
    subst hu
    have e1 : (Kd.int k).sz = 1 := rfl
    rw [e1, Nat.mul_one, Nat.add_zero, Addr.add_lit, Nat.zero_add]
    simp [World.cell?, h, hj]

set_option maxHeartbeats 3200000 in
theorem may_any {A : Option Addr} {c : Nat} {ks : List Int} {B : Option Addr} {d : Nat} {ws : List Int} (sz : Int) (w : World) (h : TabAt w A c ks B d ws) :
    Calls Try.prog 27 #[.agg #[.slice A ks.length c, .slice B ws.length d, .int .i64 sz]] w fun e w' => e = .returned (.bool (tmayB ks ws sz)) ∧ Below w.heap.size w w' := by
  have hu25 := Try.underlying25
  have HT := Aside0.mk h
  have hmk : ks.length ≤ 9223372036854775807 := h.hk.2.1
  have hmw : ws.length ≤ 9223372036854775807 := h.hw.2.1
  have HB0 := Aside0.mk (below_alloc (Below.refl w.heap.size w) (.cells #[.slice A ks.length c, .slice B ws.length d, .int .i64 sz] 25 (0,0)))
  have HB1 := Aside0.mk (below_alloc (Below.refl (w.alloc (.cells #[.slice A ks.length c, .slice B ws.length d, .int .i64 sz] 25 (0,0))).heap.size (w.alloc (.cells #[.slice A ks.length c, .slice B ws.length d, .int .i64 sz] 25 (0,0)))) (.cells #[.int .u8 2] 47 (0,0)))
  have HW := Aside0.mk (show ∀ W, Below (w.alloc (.cells #[.slice A ks.length c, .slice B ws.length d, .int .i64 sz] 25 (0,0))).heap.size (w.alloc (.cells #[.slice A ks.length c, .slice B ws.length d, .int .i64 sz] 25 (0,0))) W →
      W.heap[w.heap.size]? = some (.cells #[.slice A ks.length c, .slice B ws.length d, .int .i64 sz] 25 (0,0)) ∧ TabAt W A c ks B d ws ∧ Below w.heap.size w W from fun W hW => by
    have hb : Below w.heap.size w W := HB0.out.trans (hW.mono HB0.out.size)
    exact ⟨(hW.block _ (by simp)).trans (heap_alloc_new w _), h.below hb, hb⟩)
  have HK := Aside0.mk (show ∀ W, Below (w.alloc (.cells #[.slice A ks.length c, .slice B ws.length d, .int .i64 sz] 25 (0,0))).heap.size (w.alloc (.cells #[.slice A ks.length c, .slice B ws.length d, .int .i64 sz] 25 (0,0))) W → Calls Try.prog 50 #[.slice A ks.length c, .func (.func 48) #[] #[]] W fun e w' => e = .returned (.bool (ks.any badK)) ∧ Below W.heap.size W w' from
    fun W hW => contK_any A c ks W (HW.out W hW).2.1.hk h.hc)
  have HWd := Aside0.mk (show ∀ W, Below (w.alloc (.cells #[.slice A ks.length c, .slice B ws.length d, .int .i64 sz] 25 (0,0))).heap.size (w.alloc (.cells #[.slice A ks.length c, .slice B ws.length d, .int .i64 sz] 25 (0,0))) W → Calls Try.prog 51 #[.slice B ws.length d, .func (.func 49) #[] #[]] W fun e w' => e = .returned (.bool (ws.any badW)) ∧ Below W.heap.size W w' from
    fun W hW => contW_any B d ws W (HW.out W hW).2.1.hw h.hd)
  have HC := Aside0.mk (show ∀ W, Below (w.alloc (.cells #[.slice A ks.length c, .slice B ws.length d, .int .i64 sz] 25 (0,0))).heap.size (w.alloc (.cells #[.slice A ks.length c, .slice B ws.length d, .int .i64 sz] 25 (0,0))) W → Calls Try.prog 52 #[.agg #[.slice A ks.length c, .slice B ws.length d, .int .i64 sz], .slice (some ⟨W.heap.size, 0, none⟩) 1 1] (W.alloc (.cells #[.int .u8 2] 47)) fun e w' => e = .returned (.int .i64 (countK [2] ks : Int)) ∧ Below w.heap.size w w' from
    fun W hW => by
      have hb : Below W.heap.size W (W.alloc (.cells #[.int .u8 2] 47)) := below_alloc (Below.refl _ _) _
      refine (count2_any sz _ ((HW.out W hW).2.1.below hb) (some ⟨W.heap.size, 0, none⟩) 1 [2] (ints_C (e := 47) (fr := (0,0)) [2] (heap_alloc_new W _) (by decide)) (by decide)).mono ?_
      rintro e w' ⟨rfl, hb2⟩
      exact ⟨rfl, ((HW.out W hW).2.2.trans (hb.mono (HW.out W hW).2.2.size)).trans (hb2.mono (((HW.out W hW).2.2.trans (hb.mono (HW.out W hW).2.2.size)).size))⟩)
  unfold tmayB
  generalize ks.any badK = r5 at *
  generalize ws.any badW = r6 at *
  have hcle := countK_le [2] ks
  generalize countK [2] ks = n7 at *
  generalize ks.length = nk at *
  generalize ws.length = nw at *
  clear h
  have b0 := HB1.out.size
  clear b0
  by_cases h1 : ¬ nk ≤ 64
  · have g1 : decide ((nk : Int) ≤ 64) = false := decide_eq_false (by omega)
    have k1 : decide (nk ≤ 64) = false := decide_eq_false h1
    rw [k1]
    clear k1
    go_enter Try.func27, Try.ntmps27
    go_wp2_with fail
    go_wp2
    go_ret
    exact ⟨by simp, HB0.out⟩
  · have g1 : decide ((nk : Int) ≤ 64) = true := decide_eq_true (by omega)
    have k1 : decide (nk ≤ 64) = true := decide_eq_true (by omega)
    rw [k1]
    clear k1
    by_cases h2 : ¬ nk = nw
    · have g2 : ((nk : Int) == (nw : Int)) = false := by simp; omega
      have k2 : (nk == nw) = false := by simp; omega
      rw [k2]
      clear k2
      go_enter Try.func27, Try.ntmps27
      go_wp2_with fail
      go_wp2
      go_ret
      exact ⟨by simp, HB0.out⟩
    · have g2 : ((nk : Int) == (nw : Int)) = true := by simp; omega
      have k2 : (nk == nw) = true := by simp; omega
      rw [k2]
      clear k2
      by_cases h3 : ¬ 1 ≤ sz
      · have g3 : decide (1 ≤ sz) = false := decide_eq_false h3
        rw [g3]
        go_enter Try.func27, Try.ntmps27
        go_wp2_with fail
        go_wp2
        go_ret
        exact ⟨by simp, HB0.out⟩
      · have g3 : decide (1 ≤ sz) = true := decide_eq_true (by omega)
        rw [g3]
        by_cases h4 : ¬ sz ≤ 4096
        · have g4 : decide (sz ≤ 4096) = false := decide_eq_false h4
          rw [g4]
          go_enter Try.func27, Try.ntmps27
          go_wp2_with fail
          go_wp2
          go_ret
          exact ⟨by simp, HB0.out⟩
        · have g4 : decide (sz ≤ 4096) = true := decide_eq_true (by omega)
          rw [g4]
          by_cases h5 : r5 = true
          · subst h5
            go_enter Try.func27, Try.ntmps27
            go_wp2_with fail
            refine Calls.mono (HK.out _ (Below.refl _ _)) ?_
            rintro e w1 ⟨rfl, hb1⟩
            have d0 := cellOf (HW.out _ hb1).1 0
            have d1 := cellOf (HW.out _ hb1).1 1
            have d2 := cellOf (HW.out _ hb1).1 2
            go_wp2
            go_ret
            exact ⟨by simp, (HW.out _ hb1).2.2⟩
          · obtain rfl : r5 = false := by simpa using h5
            by_cases h6 : r6 = true
            · subst h6
              go_enter Try.func27, Try.ntmps27
              go_wp2_with fail
              refine Calls.mono (HK.out _ (Below.refl _ _)) ?_
              rintro e w1 ⟨rfl, hb1⟩
              have d0 := cellOf (HW.out _ hb1).1 0
              have d1 := cellOf (HW.out _ hb1).1 1
              have d2 := cellOf (HW.out _ hb1).1 2
              go_wp2_with fail
              refine Calls.mono (HWd.out _ hb1) ?_
              rintro e w2 ⟨rfl, hb2⟩
              have hb3 := hb1.trans (hb2.mono hb1.size)
              have e0 := cellOf (HW.out _ hb3).1 0
              have e1 := cellOf (HW.out _ hb3).1 1
              have e2 := cellOf (HW.out _ hb3).1 2
              go_wp2
              go_ret
              exact ⟨by simp, (HW.out _ hb3).2.2⟩
            · obtain rfl : r6 = false := by simpa using h6
              by_cases h7 : ¬ n7 ≤ 1
              · have g7 : decide ((n7 : Int) ≤ 1) = false := decide_eq_false (by omega)
                have k7 : decide (n7 ≤ 1) = false := decide_eq_false h7
                rw [k7]
                clear k7
                go_enter Try.func27, Try.ntmps27
                go_wp2_with fail
                refine Calls.mono (HK.out _ (Below.refl _ _)) ?_
                rintro e w1 ⟨rfl, hb1⟩
                have d0 := cellOf (HW.out _ hb1).1 0
                have d1 := cellOf (HW.out _ hb1).1 1
                have d2 := cellOf (HW.out _ hb1).1 2
                go_wp2_with fail
                refine Calls.mono (HWd.out _ hb1) ?_
                rintro e w2 ⟨rfl, hb2⟩
                have hb3 := hb1.trans (hb2.mono hb1.size)
                have e0 := cellOf (HW.out _ hb3).1 0
                have e1 := cellOf (HW.out _ hb3).1 1
                have e2 := cellOf (HW.out _ hb3).1 2
                go_wp2_with fail
                refine Calls.mono (HC.out _ hb3) ?_
                rintro e w4 ⟨rfl, hb4⟩
                go_wp2
                go_ret
                exact ⟨by simp, hb4⟩
              · have g7 : decide ((n7 : Int) ≤ 1) = true := decide_eq_true (by omega)
                have k7 : decide (n7 ≤ 1) = true := decide_eq_true (by omega)
                rw [k7]
                clear k7
                go_enter Try.func27, Try.ntmps27
                go_wp2_with fail
                refine Calls.mono (HK.out _ (Below.refl _ _)) ?_
                rintro e w1 ⟨rfl, hb1⟩
                have d0 := cellOf (HW.out _ hb1).1 0
                have d1 := cellOf (HW.out _ hb1).1 1
                have d2 := cellOf (HW.out _ hb1).1 2
                go_wp2_with fail
                refine Calls.mono (HWd.out _ hb1) ?_
                rintro e w2 ⟨rfl, hb2⟩
                have hb3 := hb1.trans (hb2.mono hb1.size)
                have e0 := cellOf (HW.out _ hb3).1 0
                have e1 := cellOf (HW.out _ hb3).1 1
                have e2 := cellOf (HW.out _ hb3).1 2
                go_wp2_with fail
                refine Calls.mono (HC.out _ hb3) ?_
                rintro e w4 ⟨rfl, hb4⟩
                go_wp2
                go_ret
                exact ⟨by simp, hb4⟩
end Go.Proofs.Ytdfmeclhpefmfaa.Own

/- kinds: what it makes. -/
set_option linter.unusedVariables false
set_option linter.unusedSimpArgs false
set_option maxRecDepth 100000
namespace Go.Proofs.Ytdfmeclhpefmfaa.Own
open Go.RowKit Go.Proofs.Ytdfmeclhpefmfaa.K YtdfmeclhpefmfaaW.PrintWords YtdfmeclhpefmfaaW.PrintLast YtdfmeclhpefmfaaW.PrintMore

theorem heap_new_at {w : World} {g : Nat} (h : g = w.heap.size) (o : Obj) : (w.alloc o).heap[g]? = some o := by
  subst h
  exact heap_alloc_new w o
theorem Blk.one {w : World} {p : Nat} {o : Obj} (h : w.heap[p]? = some o) (a : Obj) : (w.alloc a).heap[p]? = some o := blk_box h a
theorem Blk.two {w : World} {p : Nat} {o : Obj} (h : w.heap[p]? = some o) (a b : Obj) : ((w.alloc a).alloc b).heap[p]? = some o := blk_box (blk_box h a) b
def kindsC (p q : Nat) : Array Value :=
  #[.nilFunc, .nilFunc, .func (.func 58) #[] #[.pointer (some ⟨p, 0, none⟩)], .func (.func 59) #[] #[], .func (.func 60) #[] #[.pointer (some ⟨p, 0, none⟩)], .func (.func 62) #[] #[],
    .func (.func 64) #[] #[.pointer (some ⟨q, 0, none⟩)], .func (.func 65) #[] #[], .func (.func 66) #[] #[.pointer (some ⟨q, 0, none⟩)], .func (.func 68) #[] #[]]
set_option maxHeartbeats 1600000 in
theorem kinds_any (w : World) : Calls Try.prog 36 #[] w fun e w' => ∃ p q, e = .returned (.agg (kindsC p q)) ∧ w'.heap[p]? = some (.cells #[.func (.func 56) #[] #[]] 93 (0, 0)) ∧ w'.heap[q]? = some (.cells #[.func (.func 57) #[] #[]] 73 (0, 0)) ∧ Below w.heap.size w w' := by
  have hmf : ∀ (fn : Fn) (first cap : Array Value) (w : World), (Instr.makeFunc fn first cap).run Try.prog w = .ok (.func fn first cap) w := fun _ _ _ _ => rfl
  have hu77 := Try.underlying77
  have hu76 := Try.underlying76
  go_enter Try.func36, Try.ntmps36
  go_wp2_with fail
  refine bodyPost_ret (results_cell_row rfl _ _ w.heap.size 77 _ (0,0) _ rfl (Blk.two (heap_alloc_new w _) _ _) Try.underlying77 rfl (by kernel_rfl)) rfl ?_
  exact ⟨w.heap.size + 1, w.heap.size + 1 + 1, rfl, Blk.one (heap_new_at (by simp) _) _, heap_new_at (by simp) _, below_alloc (below_alloc (below_alloc (Below.refl _ _) _) _) _⟩
end Go.Proofs.Ytdfmeclhpefmfaa.Own

/- Check: what it tells; what its walk keeps. -/
set_option linter.unusedVariables false
set_option linter.unusedSimpArgs false
set_option maxRecDepth 100000
namespace Go.Proofs.Ytdfmeclhpefmfaa.Own
open Go.RowKit Go.Proofs.Ytdfmeclhpefmfaa.K YtdfmeclhpefmfaaW.PrintWords YtdfmeclhpefmfaaW.PrintLast YtdfmeclhpefmfaaW.PrintMore

/-- Blocks that stay. -/
def Hold (bs : List (Nat × Obj)) (W : World) : Prop := ∀ x ∈ bs, W.heap[x.1]? = some x.2
theorem Hold.next {bs : List (Nat × Obj)} {W W' : World} (h : Hold bs W) (hb : Below W.heap.size W W') : Hold bs W' := fun x hx => (hb.block _ (Array.getElem?_eq_some_iff.1 (h x hx)).1).trans (h x hx)
theorem Hold.cons {bs : List (Nat × Obj)} {W : World} (h : Hold bs W) {g : Nat} {o : Obj} (h1 : W.heap[g]? = some o) : Hold ((g, o) :: bs) W := fun x hx => by
  rcases List.mem_cons.1 hx with rfl | hx
  · exact h1
  · exact h x hx
theorem Hold.at1 {g : Nat} {o : Obj} {bs : List (Nat × Obj)} {W : World} (h : Hold ((g, o) :: bs) W) : W.heap[g]? = some o := h (g, o) (.head _)
theorem Hold.tail {g : Nat} {o : Obj} {bs : List (Nat × Obj)} {W : World} (h : Hold ((g, o) :: bs) W) : Hold bs W := fun x hx => h x (.tail _ hx)

/-- What Check's walk keeps. -/
structure CT (bs : List (Nat × Obj)) (w : World) (A : Option Addr) (c : Nat) (ks : List Int) (B : Option Addr) (d : Nat) (ws : List Int) (A0 : Option Addr) (ms : List S42) (A3 : Option Addr) (gs : List S40) (W : World) : Prop where
  hold : Hold bs W
  tab : TabAt W A c ks B d ws
  hm : Kd.C k42 W A0 ms.length ms
  ha : Kd.C k40 W A3 gs.length gs
  below : Below w.heap.size w W
section
variable {bs : List (Nat × Obj)} {w : World} {A : Option Addr} {c : Nat} {ks : List Int} {B : Option Addr} {d : Nat} {ws : List Int} {A0 : Option Addr} {ms : List S42} {A3 : Option Addr} {gs : List S40} {W W' : World}
theorem CT.next (h : CT bs w A c ks B d ws A0 ms A3 gs W) (hb : Below W.heap.size W W') : CT bs w A c ks B d ws A0 ms A3 gs W' :=
  ⟨h.hold.next hb, h.tab.below hb, Kd.C_below h.hm hb, Kd.C_below h.ha hb, h.below.trans (hb.mono h.below.size)⟩
theorem CT.box (h : CT bs w A c ks B d ws A0 ms A3 gs W) (o : Obj) : CT ((W.heap.size, o) :: bs) w A c ks B d ws A0 ms A3 gs (W.alloc o) := by
  have h2 := h.next (below_alloc (Below.refl _ _) o)
  exact ⟨h2.hold.cons (heap_alloc_new W o), h2.tab, h2.hm, h2.ha, h2.below⟩
theorem CT.more (h : CT bs w A c ks B d ws A0 ms A3 gs W) {g : Nat} {o : Obj} (h1 : W.heap[g]? = some o) : CT ((g, o) :: bs) w A c ks B d ws A0 ms A3 gs W := ⟨h.hold.cons h1, h.tab, h.hm, h.ha, h.below⟩
theorem CT.less {g : Nat} {o : Obj} (h : CT ((g, o) :: bs) w A c ks B d ws A0 ms A3 gs W) : CT bs w A c ks B d ws A0 ms A3 gs W := ⟨h.hold.tail, h.tab, h.hm, h.ha, h.below⟩
end

def keyB (k wd : Int) (m : S42) : Bool := okB m.f0 && (m.f0.f0 == wd && mayB k wd m)
def keysB (ks ws : List Int) (ms : List S42) : Bool := (List.range ms.length).all (fun j => keyB (ks.getD j 0) (ws.getD j 0) (ms.getD j z42))
def prioB (wt : Bool) (p : Int) : Bool := (wt && (decide (1 ≤ p) && decide (p ≤ 2147483647))) || (!wt && p == 0)
def checkB (ks ws : List Int) (sz : Int) (e : S30) : Bool := tmayB ks ws sz && (e.f0.length == ks.length && (keysB ks ws e.f0 && (!(e.f3.any notOk) && prioB (weighsB ks) e.f1)))
def checkP (ks ws : List Int) (sz : Int) (e : S30) : Int := if checkB ks ws sz e then 0 else 1
theorem keysB_iff (ks ws : List Int) (ms : List S42) : keysB ks ws ms = true ↔ ∀ j, j < ms.length → keyB (ks.getD j 0) (ws.getD j 0) (ms.getD j z42) = true := by
  simp [keysB, List.all_eq_true, List.mem_range]
theorem keysB_no (ks ws : List Int) (ms : List S42) (j : Nat) (hj : j < ms.length) (h : keyB (ks.getD j 0) (ws.getD j 0) (ms.getD j z42) = false) : keysB ks ws ms = false := by
  cases hk : keysB ks ws ms with
  | false => rfl
  | true =>
    have := (keysB_iff ks ws ms).1 hk j hj
    rw [h] at this
    cases this
theorem bad_some (k : Int) (h : badK k = false) : k = 1 ∨ k = 2 ∨ k = 3 ∨ k = 4 := by
  unfold badK at h
  simp at h
  omega
theorem any_get {α : Type} (p : α → Bool) (z : α) (l : List α) (h : l.any p = false) (j : Nat) (hj : j < l.length) : p (l.getD j z) = false := by
  rw [List.getD_eq_getElem?_getD, List.getElem?_eq_getElem hj]
  simp at h ⊢
  exact h _ (List.getElem_mem hj)
end Go.Proofs.Ytdfmeclhpefmfaa.Own

/- Rows of the call's own, their spare room cut off or not; slices.Clone and slices.Clip of matches and of numbers. -/
set_option linter.unusedVariables false
set_option linter.unusedSimpArgs false
set_option maxRecDepth 100000
namespace Go.Proofs.Ytdfmeclhpefmfaa.Own
open Go.RowKit Go.Proofs.Ytdfmeclhpefmfaa.K YtdfmeclhpefmfaaW.PrintWords YtdfmeclhpefmfaaW.PrintLast YtdfmeclhpefmfaaW.PrintMore

/-- A row in a block of the call's own; its room may be less than the block's. -/
def CRow (W : World) (base e sz : Nat) (v : Value) (n : Nat) (xs : List Value) : Prop :=
  xs.length = n * sz ∧ ((v = .slice none 0 0 ∧ n = 0) ∨ ∃ g cap cur, v = .slice (some ⟨g, 0, none⟩) n cap ∧ base ≤ g ∧ W.heap[g]? = some (.cells cur e (0, 0)) ∧ n ≤ cap ∧ cap ≤ maxLen ∧ cap * sz ≤ cur.size ∧ cur.toList.take (n * sz) = xs)
section
variable {W W' : World} {base e sz n : Nat} {v : Value} {xs : List Value}
theorem CRow.of_own (h : W.ownsRow base e sz v n xs) : CRow W base e sz v n xs := by
  refine ⟨h.1, ?_⟩
  rcases h.2 with ⟨h1, h2⟩ | ⟨g, cap, cur, h1, h2, h3, h4, h5, h6, h7⟩
  · exact .inl ⟨h1, h2⟩
  · exact .inr ⟨g, cap, cur, h1, h2, h3, h4, h5, by omega, h7⟩
theorem CRow.nil : CRow W base e sz (.slice none 0 0) 0 [] := ⟨by simp, .inl ⟨rfl, rfl⟩⟩
theorem CRow.form (h : CRow W base e sz v n xs) : ∃ A c, v = .slice A n c ∧ n ≤ c ∧ c ≤ maxLen ∧ ∀ ad, A = some ad → ad.spot = none := by
  rcases h.2 with ⟨rfl, rfl⟩ | ⟨g, cap, cur, rfl, _, _, h4, h5, _⟩
  · exact ⟨_, _, rfl, Nat.le_refl _, by decide, fun ad e => by cases e⟩
  · exact ⟨_, _, rfl, h4, h5, fun ad e => by injection e with e; subst e; rfl⟩
theorem CRow.clip {A : Option Addr} {c : Nat} (h : CRow W base e sz (.slice A n c) n xs) : CRow W base e sz (.slice A n n) n xs := by
  refine ⟨h.1, ?_⟩
  rcases h.2 with ⟨e, h0⟩ | ⟨g, cap, cur, e, h2, h3, h4, h5, h6, h7⟩
  · injection e with e1 _ _
    subst e1
    subst h0
    exact .inl ⟨rfl, rfl⟩
  · injection e with e1 _ e3
    subst e1
    exact .inr ⟨g, n, cur, rfl, h2, h3, Nat.le_refl _, by omega, Nat.le_trans (Nat.mul_le_mul_right _ h4) h6, h7⟩
theorem CRow.foot {G : Nat → Prop} (h : CRow W base e sz v n xs) (hf : Foot G W W') (hne : ∀ k, v.ownBlock = some k → ¬ G k) : CRow W' base e sz v n xs := by
  refine ⟨h.1, h.2.elim .inl ?_⟩
  rintro ⟨g, cap, cur, h1, h2, h3, r⟩
  exact .inr ⟨g, cap, cur, h1, h2, hf.blk h3 (hne g (by rw [h1]; rfl)), r⟩
theorem CRow.step (h : CRow W base e sz v n xs) (hm : ∀ k, v.ownBlock = some k → W'.heap[k]? = W.heap[k]?) : CRow W' base e sz v n xs := by
  refine ⟨h.1, h.2.elim .inl ?_⟩
  rintro ⟨g, cap, cur, h1, h2, h3, r⟩
  exact .inr ⟨g, cap, cur, h1, h2, (hm g (by rw [h1]; rfl)).trans h3, r⟩
theorem CRow.keep (h : CRow W base e sz v n xs) (hb : Below W.heap.size W W') : CRow W' base e sz v n xs := h.foot (Foot.ofBelow hb (fun _ => False)) (fun _ _ h => h)
theorem CRow.base_ {base' : Nat} (h : CRow W base e sz v n xs) (hb : base' ≤ base) : CRow W base' e sz v n xs := by
  refine ⟨h.1, h.2.elim .inl ?_⟩
  rintro ⟨g, cap, cur, h1, h2, r⟩
  exact .inr ⟨g, cap, cur, h1, Nat.le_trans hb h2, r⟩
theorem CRow.lt (h : CRow W base e sz v n xs) : ∀ k, v.ownBlock = some k → base ≤ k ∧ k < W.heap.size := by
  intro k hk
  rcases h.2 with ⟨rfl, _⟩ | ⟨g, cap, cur, rfl, h1, h2, _⟩
  · simp [Value.ownBlock] at hk
  · simp only [Value.ownBlock, Option.some.injEq] at hk
    subst hk
    exact ⟨h1, (Array.getElem?_eq_some_iff.1 h2).1⟩
theorem CRow.typed (h : CRow W base e sz v n xs) : ∀ k, v.ownBlock = some k → ∃ cur, W.heap[k]? = some (.cells cur e (0, 0)) := by
  intro k hk
  rcases h.2 with ⟨rfl, _⟩ | ⟨g, cap, cur, rfl, h1, h2, _⟩
  · simp [Value.ownBlock] at hk
  · simp only [Value.ownBlock, Option.some.injEq] at hk
    subst hk
    exact ⟨_, h2⟩
theorem CRow.cells {A : Option Addr} {c : Nat} (h : CRow W base e sz (.slice A n c) n xs) (hn : 0 < n) : ∃ g, A = some ⟨g, 0, none⟩ ∧ ∀ j u, xs[j]? = some u → W.cell? ((⟨g, 0, none⟩ : Addr).add j) = some u := by
  rcases h.2 with ⟨_, h0⟩ | ⟨g, cap, cur, e, _, h3, _, _, _, h7⟩
  · omega
  · injection e with e1 _ _
    refine ⟨g, e1, fun j u hu => ?_⟩
    rw [add_plain, cellOf h3 j]
    have hj : j < n * sz := by
      rcases Nat.lt_or_ge j (n * sz) with h' | h'
      · exact h'
      · rw [List.getElem?_eq_none (by rw [h.1]; exact h')] at hu; cases hu
    rw [← h7, List.getElem?_take_of_lt hj] at hu
    simpa using hu
end

/-! ### a match's and a number's cells -/
def mL (m : S42) : List Value := [.int .i64 m.f0.f0, .int .u64 m.f0.f1, .int .u64 m.f0.f2, .int .i64 m.f1.f0, .int .u64 m.f1.f1, .int .u64 m.f1.f2, .int .i64 m.f2]
def bL (b : S40) : List Value := [.int .i64 b.f0, .int .u64 b.f1, .int .u64 b.f2]
theorem flat_len {α : Type} (f : α → List Value) (sz : Nat) (hf : ∀ x, (f x).length = sz) : ∀ l : List α, (l.flatMap f).length = l.length * sz
  | [] => by simp
  | x :: xs => by
    rw [List.flatMap_cons, List.length_append, hf x, flat_len f sz hf xs, List.length_cons, Nat.succ_mul, Nat.add_comm]
theorem flat_get {α : Type} (f : α → List Value) (sz : Nat) (hf : ∀ x, (f x).length = sz) (z : α) : ∀ (l : List α) (i j : Nat), i < l.length → j < sz → (l.flatMap f)[i * sz + j]? = (f (l.getD i z))[j]?
  | [], i, j, hi, _ => by simp at hi
  | x :: xs, 0, j, _, hj => by
    rw [List.flatMap_cons, Nat.zero_mul, Nat.zero_add, List.getElem?_append_left (by rw [hf x]; exact hj)]
    rfl
  | x :: xs, i + 1, j, hi, hj => by
    rw [List.flatMap_cons, List.getElem?_append_right (by rw [hf x, Nat.succ_mul]; omega), hf x, show (i + 1) * sz + j - sz = i * sz + j by rw [Nat.succ_mul]; omega, flat_get f sz hf z xs i j (by simpa using hi) hj]
    simp
/-- Reading a row of flat elements, by its cells. -/
theorem C_of_flat {α : Type} (d : Kd α) (f : α → List Value) (hsz : d.sz ≠ 0) (hf : ∀ x, (f x).length = d.sz) (z : α) {w : World} {A : Option Addr} {xs : List α} (hK : ∀ x, d.K w x (f x)) (hm : xs.length ≤ 9223372036854775807)
    (hA : 0 < xs.length → ∃ ad, A = some ad ∧ ∀ j u, (xs.flatMap f)[j]? = some u → w.cell? (ad.add j) = some u) : Kd.C d w A xs.length xs := by
  refine ⟨rfl, hm, fun hn => ?_⟩
  obtain ⟨ad, e, hc⟩ := hA hn
  refine ⟨ad, e, fun j p hj => ?_⟩
  have hjl : j < xs.length := by
    rcases Nat.lt_or_ge j xs.length with h | h
    · exact h
    · rw [List.getElem?_eq_none h] at hj; cases hj
  have hp : xs.getD j z = p := by rw [List.getD_eq_getElem?_getD, hj]; rfl
  refine ⟨f p, hf p, hK p, fun i u hu => ?_⟩
  have hi : i < d.sz := by
    rcases Nat.lt_or_ge i d.sz with h | h
    · exact h
    · rw [List.getElem?_eq_none (by rw [hf p]; exact h)] at hu; cases hu
  exact hc _ u (by rw [flat_get f d.sz hf z xs j i hjl hi, hp]; exact hu)
theorem Cells_of_C {α : Type} (d : Kd α) (f : α → List Value) (sz : Nat) (hsz : d.sz = sz) (hf : ∀ x, (f x).length = sz) (h1 : ∀ x, ∀ u ∈ f x, u.oneCell' = true) (z : α) {w : World} {A : Option Addr} {xs : List α} (hK : ∀ x cs, d.K w x cs → cs = f x)
    (h : Kd.C d w A xs.length xs) : Cells w A xs.length sz (xs.flatMap f) := by
  subst hsz
  refine ⟨flat_len f _ hf xs, ?_, fun hn => ?_⟩
  · intro u hu
    obtain ⟨x, _, hx⟩ := List.mem_flatMap.1 hu
    exact h1 x u hx
  · obtain ⟨_, _, hr⟩ := h
    obtain ⟨ad, e, hc⟩ := hr hn
    refine ⟨ad, e, fun j u hu => ?_⟩
    have hjl : j < xs.length * d.sz := by
      rcases Nat.lt_or_ge j (xs.length * d.sz) with h | h
      · exact h
      · rw [List.getElem?_eq_none (by rw [flat_len f _ hf]; exact h)] at hu; cases hu
    have hs : 0 < d.sz := by
      rcases Nat.eq_zero_or_pos d.sz with h | h
      · rw [h] at hjl; omega
      · exact h
    have hq : j / d.sz < xs.length := Nat.div_lt_of_lt_mul (by rw [Nat.mul_comm]; exact hjl)
    have hd : j / d.sz * d.sz + j % d.sz = j := by rw [Nat.mul_comm]; exact Nat.div_add_mod j d.sz
    have hg := flat_get f d.sz hf z xs (j / d.sz) (j % d.sz) hq (Nat.mod_lt _ hs)
    rw [hd, hu] at hg
    obtain ⟨cs, _, hKx, hcc⟩ := hc (j / d.sz) (xs.getD (j / d.sz) z) (by rw [List.getD_eq_getElem?_getD, List.getElem?_eq_getElem hq]; rfl)
    have := hcc (j % d.sz) u (by rw [hK _ _ hKx]; exact hg.symm)
    rwa [hd] at this
theorem infoM : ((Try.prog.info? 42).map fun i => (i.zero, i.size, i.bytes)) = some (some (.agg #[.int .i64 0, .int .u64 0, .int .u64 0, .int .i64 0, .int .u64 0, .int .u64 0, .int .i64 0]), 7, 56) := by kernel_rfl
theorem infoB : ((Try.prog.info? 40).map fun i => (i.zero, i.size, i.bytes)) = some (some (.agg #[.int .i64 0, .int .u64 0, .int .u64 0]), 3, 24) := by kernel_rfl
theorem cells_M {w : World} {A : Option Addr} {xs : List S42} (h : Kd.C k42 w A xs.length xs) : Cells w A xs.length 7 (xs.flatMap mL) :=
  Cells_of_C k42 mL 7 rfl (fun _ => rfl) (fun x u hu => by simp [mL] at hu; rcases hu with rfl | rfl | rfl | rfl | rfl | rfl | rfl <;> rfl) z42 (fun x cs hk => k42_open hk) h
theorem cells_B {w : World} {A : Option Addr} {xs : List S40} (h : Kd.C k40 w A xs.length xs) : Cells w A xs.length 3 (xs.flatMap bL) :=
  Cells_of_C k40 bL 3 rfl (fun _ => rfl) (fun x u hu => by simp [bL] at hu; rcases hu with rfl | rfl | rfl <;> rfl) z40 (fun x cs hk => k40_open hk) h
theorem crow_M {w : World} {base c : Nat} {A : Option Addr} {xs : List S42} (h : CRow w base 42 7 (.slice A xs.length c) xs.length (xs.flatMap mL)) (hm : xs.length ≤ 9223372036854775807) : Kd.C k42 w A xs.length xs :=
  C_of_flat k42 mL (by decide) (fun _ => rfl) z42 (fun x => k42_mk w x) hm (fun hn => by obtain ⟨g, e, hc⟩ := h.cells hn; exact ⟨_, e, hc⟩)
theorem crow_B {w : World} {base c : Nat} {A : Option Addr} {xs : List S40} (h : CRow w base 40 3 (.slice A xs.length c) xs.length (xs.flatMap bL)) (hm : xs.length ≤ 9223372036854775807) : Kd.C k40 w A xs.length xs :=
  C_of_flat k40 bL (by decide) (fun _ => rfl) z40 (fun x => k40_mk w x) hm (fun hn => by obtain ⟨g, e, hc⟩ := h.cells hn; exact ⟨_, e, hc⟩)
end Go.Proofs.Ytdfmeclhpefmfaa.Own

/- slices.Clone and slices.Clip of matches, of numbers, of entries (written by gen/gen_m11.py). -/
set_option linter.unusedVariables false
set_option linter.unusedSimpArgs false
set_option maxRecDepth 100000
namespace Go.Proofs.Ytdfmeclhpefmfaa.Own
open Go.RowKit Go.Proofs.Ytdfmeclhpefmfaa.K YtdfmeclhpefmfaaW.PrintWords YtdfmeclhpefmfaaW.PrintLast YtdfmeclhpefmfaaW.PrintMore


set_option maxHeartbeats 1600000 in
theorem cloneM_any (B : Option Addr) (d : Nat) (ls : List S42) (w : World) (hS : Kd.C k42 w B ls.length ls) (hm : ls.length ≤ 1000000) :
    Calls Try.prog 43 #[.slice B ls.length d] w fun e w' => ∃ v, e = .returned v ∧ w'.ownsRow w.heap.size 42 7 v ls.length (ls.flatMap mL) ∧ Below w.heap.size w w' := by
  have HS0 := Aside0.mk (fun W (hW : Below w.heap.size w W) => cells_M (Kd.C_below hS hW))
  have hlen := ls.length
  rcases B with _ | ad
  · have h0 : ls.length = 0 := by
      rcases Nat.eq_zero_or_pos ls.length with h | h
      · exact h
      · obtain ⟨ad, e, _⟩ := hS.2.2 h
        cases e
    obtain rfl : ls = [] := List.eq_nil_of_length_eq_zero h0
    have hnil : ∀ W, (binOp BinOp.eql 27 (.slice none ([] : List S42).length d) (.slice none 0 0)).run Try.prog W = .ok (.bool true) W := fun W => by kernel_rfl
    simp only [List.length_nil] at hnil ⊢
    clear hS HS0 hm h0
    go_enter Try.func43, Try.ntmps43
    go_wp2_with fail
    go_ret
    exact ⟨_, rfl, World.ownsRow_nil _ _ _ _, Below.refl _ _⟩
  · have hnil : ∀ W, (binOp BinOp.eql 27 (.slice (some ad) ls.length d) (.slice none 0 0)).run Try.prog W = .ok (.bool false) W := fun W => by kernel_rfl
    have HO := Aside0.mk (World.ownsRow_lit (base := w.heap.size) (e := 42) (size := 7) w #[] 0 (Nat.le_refl _) (by simp [maxLen]) rfl)
    have HB := Aside0.mk ((Below.refl w.heap.size w).alloc (Nat.le_refl _) (.cells #[] 42))
    have HS := Aside0.mk (HS0.out _ HB.out)
    obtain ⟨n, hn⟩ : ∃ n, n = ls.length := ⟨_, rfl⟩
    rw [← hn] at hnil HS hm ⊢
    clear hS HS0 hn
    go_enter Try.func43, Try.ntmps43
    go_wp2_with (at_builtin; refine append_cells w.heap.size rfl _ _ 27 42 _ 7 56 rfl Try.underlying27 infoM rfl (by decide) (by decide) (.slice (some ⟨w.heap.size, 0, none⟩) 0 0) 0 [] (ls.flatMap mL) (some ad) n d rfl rfl HO.out HS.out HB.out.size (by omega) ?_; intro v1 w8 hown hg hat; have hb := HB.out.trans ((own_grown HO.out hg HB.out.size).mono (Nat.le_refl _)); clear hg hat)
    go_ret
    rw [List.nil_append, Nat.zero_add] at hown
    exact ⟨v1, rfl, hown, hb⟩

set_option maxHeartbeats 1600000 in
theorem cloneB_any (B : Option Addr) (d : Nat) (ls : List S40) (w : World) (hS : Kd.C k40 w B ls.length ls) (hm : ls.length ≤ 1000000) :
    Calls Try.prog 45 #[.slice B ls.length d] w fun e w' => ∃ v, e = .returned v ∧ w'.ownsRow w.heap.size 40 3 v ls.length (ls.flatMap bL) ∧ Below w.heap.size w w' := by
  have HS0 := Aside0.mk (fun W (hW : Below w.heap.size w W) => cells_B (Kd.C_below hS hW))
  have hlen := ls.length
  rcases B with _ | ad
  · have h0 : ls.length = 0 := by
      rcases Nat.eq_zero_or_pos ls.length with h | h
      · exact h
      · obtain ⟨ad, e, _⟩ := hS.2.2 h
        cases e
    obtain rfl : ls = [] := List.eq_nil_of_length_eq_zero h0
    have hnil : ∀ W, (binOp BinOp.eql 28 (.slice none ([] : List S40).length d) (.slice none 0 0)).run Try.prog W = .ok (.bool true) W := fun W => by kernel_rfl
    simp only [List.length_nil] at hnil ⊢
    clear hS HS0 hm h0
    go_enter Try.func45, Try.ntmps45
    go_wp2_with fail
    go_ret
    exact ⟨_, rfl, World.ownsRow_nil _ _ _ _, Below.refl _ _⟩
  · have hnil : ∀ W, (binOp BinOp.eql 28 (.slice (some ad) ls.length d) (.slice none 0 0)).run Try.prog W = .ok (.bool false) W := fun W => by kernel_rfl
    have HO := Aside0.mk (World.ownsRow_lit (base := w.heap.size) (e := 40) (size := 3) w #[] 0 (Nat.le_refl _) (by simp [maxLen]) rfl)
    have HB := Aside0.mk ((Below.refl w.heap.size w).alloc (Nat.le_refl _) (.cells #[] 40))
    have HS := Aside0.mk (HS0.out _ HB.out)
    obtain ⟨n, hn⟩ : ∃ n, n = ls.length := ⟨_, rfl⟩
    rw [← hn] at hnil HS hm ⊢
    clear hS HS0 hn
    go_enter Try.func45, Try.ntmps45
    go_wp2_with (at_builtin; refine append_cells w.heap.size rfl _ _ 28 40 _ 3 24 rfl Try.underlying28 infoB rfl (by decide) (by decide) (.slice (some ⟨w.heap.size, 0, none⟩) 0 0) 0 [] (ls.flatMap bL) (some ad) n d rfl rfl HO.out HS.out HB.out.size (by omega) ?_; intro v1 w8 hown hg hat; have hb := HB.out.trans ((own_grown HO.out hg HB.out.size).mono (Nat.le_refl _)); clear hg hat)
    go_ret
    rw [List.nil_append, Nat.zero_add] at hown
    exact ⟨v1, rfl, hown, hb⟩

theorem clipM_any (A : Option Addr) (L c : Nat) (w : World) (hL : L ≤ c) (hc : c ≤ 9223372036854775807) (hA : ∀ ad, A = some ad → ad.spot = none) :
    Calls Try.prog 42 #[.slice A L c] w fun e w' => e = .returned (.slice A L L) ∧ w' = w := by
  have hL0 : (0 : Int) ≤ (L : Int) := by omega
  have hLc : (L : Int) ≤ (c : Int) := by omega
  have hsl : ∀ W : World, (Instr.slice 27 (.slice A L c) none (some (.int .i64 (L : Int))) (some (.int .i64 (L : Int)))).run Try.prog W = .ok (.slice A L L) W := by
    intro W
    rw [run_slice_hm (P := Try.prog) W 27 A L c (by kernel_rfl) .i64 .i64 (L : Int) (L : Int) (by omega) (by omega) (by omega)]
    have hsz : (sizeOf (Try.prog.elem 27)).run Try.prog W = .ok 7 W := by kernel_rfl
    rw [hsz]
    rcases A with _ | ⟨b, off, spot⟩
    · simp [sliced, Result.andThen]
    · have := hA _ rfl
      simp only at this
      subst this
      simp [sliced, Result.andThen, Addr.add_lit]
  clear hA
  go_enter Try.func42, Try.ntmps42
  go_wp2_with fail
  go_ret
  exact ⟨rfl, rfl⟩
theorem clipM_row {base n e : Nat} {v : Value} {xs : List Value} (w : World) (h : CRow w base e 7 v n xs) :
    Calls Try.prog 42 #[v] w fun r w' => ∃ v', r = .returned v' ∧ CRow w' base e 7 v' n xs ∧ v'.ownBlock = v.ownBlock ∧ w' = w := by
  obtain ⟨A, c, rfl, h1, h2, h3⟩ := h.form
  refine (clipM_any A n c w h1 (by simpa [maxLen] using h2) h3).mono ?_
  rintro r w' ⟨rfl, rfl⟩
  refine ⟨_, rfl, h.clip, ?_, rfl⟩
  rcases A with _ | ad <;> rfl

theorem clipB_any (A : Option Addr) (L c : Nat) (w : World) (hL : L ≤ c) (hc : c ≤ 9223372036854775807) (hA : ∀ ad, A = some ad → ad.spot = none) :
    Calls Try.prog 44 #[.slice A L c] w fun e w' => e = .returned (.slice A L L) ∧ w' = w := by
  have hL0 : (0 : Int) ≤ (L : Int) := by omega
  have hLc : (L : Int) ≤ (c : Int) := by omega
  have hsl : ∀ W : World, (Instr.slice 28 (.slice A L c) none (some (.int .i64 (L : Int))) (some (.int .i64 (L : Int)))).run Try.prog W = .ok (.slice A L L) W := by
    intro W
    rw [run_slice_hm (P := Try.prog) W 28 A L c (by kernel_rfl) .i64 .i64 (L : Int) (L : Int) (by omega) (by omega) (by omega)]
    have hsz : (sizeOf (Try.prog.elem 28)).run Try.prog W = .ok 3 W := by kernel_rfl
    rw [hsz]
    rcases A with _ | ⟨b, off, spot⟩
    · simp [sliced, Result.andThen]
    · have := hA _ rfl
      simp only at this
      subst this
      simp [sliced, Result.andThen, Addr.add_lit]
  clear hA
  go_enter Try.func44, Try.ntmps44
  go_wp2_with fail
  go_ret
  exact ⟨rfl, rfl⟩
theorem clipB_row {base n e : Nat} {v : Value} {xs : List Value} (w : World) (h : CRow w base e 3 v n xs) :
    Calls Try.prog 44 #[v] w fun r w' => ∃ v', r = .returned v' ∧ CRow w' base e 3 v' n xs ∧ v'.ownBlock = v.ownBlock ∧ w' = w := by
  obtain ⟨A, c, rfl, h1, h2, h3⟩ := h.form
  refine (clipB_any A n c w h1 (by simpa [maxLen] using h2) h3).mono ?_
  rintro r w' ⟨rfl, rfl⟩
  refine ⟨_, rfl, h.clip, ?_, rfl⟩
  rcases A with _ | ad <;> rfl

theorem clipE_any (A : Option Addr) (L c : Nat) (w : World) (hL : L ≤ c) (hc : c ≤ 9223372036854775807) (hA : ∀ ad, A = some ad → ad.spot = none) :
    Calls Try.prog 22 #[.slice A L c] w fun e w' => e = .returned (.slice A L L) ∧ w' = w := by
  have hL0 : (0 : Int) ≤ (L : Int) := by omega
  have hLc : (L : Int) ≤ (c : Int) := by omega
  have hsl : ∀ W : World, (Instr.slice 26 (.slice A L c) none (some (.int .i64 (L : Int))) (some (.int .i64 (L : Int)))).run Try.prog W = .ok (.slice A L L) W := by
    intro W
    rw [run_slice_hm (P := Try.prog) W 26 A L c (by kernel_rfl) .i64 .i64 (L : Int) (L : Int) (by omega) (by omega) (by omega)]
    have hsz : (sizeOf (Try.prog.elem 26)).run Try.prog W = .ok 4 W := by kernel_rfl
    rw [hsz]
    rcases A with _ | ⟨b, off, spot⟩
    · simp [sliced, Result.andThen]
    · have := hA _ rfl
      simp only at this
      subst this
      simp [sliced, Result.andThen, Addr.add_lit]
  clear hA
  go_enter Try.func22, Try.ntmps22
  go_wp2_with fail
  go_ret
  exact ⟨rfl, rfl⟩
theorem clipE_row {base n e : Nat} {v : Value} {xs : List Value} (w : World) (h : CRow w base e 4 v n xs) :
    Calls Try.prog 22 #[v] w fun r w' => ∃ v', r = .returned v' ∧ CRow w' base e 4 v' n xs ∧ v'.ownBlock = v.ownBlock ∧ w' = w := by
  obtain ⟨A, c, rfl, h1, h2, h3⟩ := h.form
  refine (clipE_any A n c w h1 (by simpa [maxLen] using h2) h3).mono ?_
  rintro r w' ⟨rfl, rfl⟩
  refine ⟨_, rfl, h.clip, ?_, rfl⟩
  rcases A with _ | ad <;> rfl
end Go.Proofs.Ytdfmeclhpefmfaa.Own

/- Twin: an entry in memory of its own. -/
set_option linter.unusedVariables false
set_option linter.unusedSimpArgs false
set_option maxRecDepth 100000
namespace Go.Proofs.Ytdfmeclhpefmfaa.Own
open Go.RowKit Go.Proofs.Ytdfmeclhpefmfaa.K YtdfmeclhpefmfaaW.PrintWords YtdfmeclhpefmfaaW.PrintLast YtdfmeclhpefmfaaW.PrintMore

/-- An entry's two slices. -/
abbrev EV := Value × Value
def entL (x : S30) (u : EV) : List Value := [u.1, .int .i64 x.f1, .string x.f2, u.2]
structure EntOk (W : World) (base : Nat) (x : S30) (u : EV) : Prop where
  m : CRow W base 42 7 u.1 x.f0.length (x.f0.flatMap mL)
  a : CRow W base 40 3 u.2 x.f3.length (x.f3.flatMap bL)
theorem EntOk.keep {W W' : World} {base : Nat} {x : S30} {u : EV} (h : EntOk W base x u) (hb : Below W.heap.size W W') : EntOk W' base x u := ⟨h.m.keep hb, h.a.keep hb⟩
theorem EntOk.base_ {W : World} {base base' : Nat} {x : S30} {u : EV} (h : EntOk W base x u) (hb : base' ≤ base) : EntOk W base' x u := ⟨h.m.base_ hb, h.a.base_ hb⟩
theorem EntOk.step {W W' : World} {base : Nat} {x : S30} {u : EV} (h : EntOk W base x u) (hm : ∀ k, base ≤ k → W'.heap[k]? = W.heap[k]?) : EntOk W' base x u :=
  ⟨h.m.step (fun k hk => hm k (h.m.lt k hk).1), h.a.step (fun k hk => hm k (h.a.lt k hk).1)⟩
theorem EntOk.cut {W W' : World} {base : Nat} {x : S30} {u : EV} (h : EntOk W base x u) (hm : ∀ (k : Nat) (t : TypeId) (cs : Array Value), W.heap[k]? = some (Obj.cells cs t (0, 0)) → t = 42 ∨ t = 40 → W'.heap[k]? = W.heap[k]?) : EntOk W' base x u :=
  ⟨h.m.step (fun k hk => by obtain ⟨cur, hc⟩ := h.m.typed k hk; exact hm k 42 _ hc (.inl rfl)), h.a.step (fun k hk => by obtain ⟨cur, hc⟩ := h.a.typed k hk; exact hm k 40 _ hc (.inr rfl))⟩

theorem set4 {w : World} {g : Nat} {a b c d : Value} {t : TypeId} {fr : Nat × Nat} (h : w.heap[g]? = some (.cells #[a, b, c, d] t fr)) (x y z u : Value) : ((((w.setCell ⟨g, 0, none⟩ x).setCell ⟨g, 1, none⟩ y).setCell ⟨g, 2, none⟩ z).setCell ⟨g, 3, none⟩ u).heap[g]? = some (.cells #[x, y, z, u] t fr) := by
  rw [setCell_heap (setCell_heap (setCell_heap (setCell_heap h 0 x) 1 y) 2 z) 3 u]
  rfl
theorem far2 {w : World} {g q : Nat} {o : Obj} (h : w.heap[q]? = some o) (hne : ¬ q = g) (i j : Nat) (x y : Value) : ((w.setCell ⟨g, i, none⟩ x).setCell ⟨g, j, none⟩ y).heap[q]? = some o := by
  rw [Below.heap_setCell _ _ _ _ hne, Below.heap_setCell _ _ _ _ hne]
  exact h
/-- Six stores into two boxes. -/
theorem six {w W : World} {g q : Nat} (hb : Below w.heap.size w W) (hg : w.heap.size ≤ g) (hq : w.heap.size ≤ q) (x y a b c d : Value) (i j : Nat) :
    Below w.heap.size w ((((((W.setCell ⟨g, i, none⟩ x).setCell ⟨g, j, none⟩ y).setCell ⟨q, 0, none⟩ a).setCell ⟨q, 1, none⟩ b).setCell ⟨q, 2, none⟩ c).setCell ⟨q, 3, none⟩ d) :=
  (((((hb.setCell hg _).setCell hg _).setCell hq _).setCell hq _).setCell hq _).setCell hq _
theorem six_heap {W : World} {g q : Nat} (x y a b c d : Value) (i j k : Nat) (h1 : k ≠ g) (h2 : k ≠ q) :
    ((((((W.setCell ⟨g, i, none⟩ x).setCell ⟨g, j, none⟩ y).setCell ⟨q, 0, none⟩ a).setCell ⟨q, 1, none⟩ b).setCell ⟨q, 2, none⟩ c).setCell ⟨q, 3, none⟩ d).heap[k]? = W.heap[k]? := by
  rw [Below.heap_setCell _ _ _ _ h2, Below.heap_setCell _ _ _ _ h2, Below.heap_setCell _ _ _ _ h2, Below.heap_setCell _ _ _ _ h2, Below.heap_setCell _ _ _ _ h1, Below.heap_setCell _ _ _ _ h1]
set_option maxHeartbeats 1600000 in
theorem twin_any (x : S30) {A0 A3 : Option Addr} {c0 c3 : Nat} (w : World) (hm : Kd.C k42 w A0 x.f0.length x.f0) (ha : Kd.C k40 w A3 x.f3.length x.f3) (h1 : x.f0.length ≤ 1000000) (h2 : x.f3.length ≤ 1000000) :
    Calls Try.prog 24 #[.agg #[.slice A0 x.f0.length c0, .int .i64 x.f1, .string x.f2, .slice A3 x.f3.length c3]] w fun r w' => ∃ u1 u2 : Value, r = .returned (.agg #[u1, .int .i64 x.f1, .string x.f2, u2]) ∧ EntOk w' w.heap.size x (u1, u2) ∧ Below w.heap.size w w' := by
  have hu30 := Try.underlying30
  obtain ⟨ms, p1, s2, gs⟩ := x
  simp only at *
  have HM := Aside0.mk (fun W (hb : Below w.heap.size w W) => cloneM_any A0 c0 ms W (Kd.C_below hm hb) h1)
  have HA := Aside0.mk (fun W (hb : Below w.heap.size w W) => cloneB_any A3 c3 gs W (Kd.C_below ha hb) h2)
  obtain ⟨n, hn⟩ : ∃ n, n = ms.length := ⟨_, rfl⟩
  obtain ⟨k, hk⟩ : ∃ n, n = gs.length := ⟨_, rfl⟩
  have HN := Aside0.mk (And.intro hn hk)
  rw [← hn] at HM ⊢
  rw [← hk] at HA ⊢
  clear hm ha h1 h2 hn hk
  obtain ⟨g, hg⟩ : ∃ g, g = w.heap.size := ⟨_, rfl⟩
  have HB2 := Aside0.mk (show Below w.heap.size w ((w.alloc (.cells #[.slice A0 n c0, .int .i64 p1, .string s2, .slice A3 k c3] 30 (0,0))).alloc (.cells #[.slice none 0 0, .int .i64 0, .string ⟨#[]⟩, .slice none 0 0] 30 (0,0))) ∧
    ((w.alloc (.cells #[.slice A0 n c0, .int .i64 p1, .string s2, .slice A3 k c3] 30 (0,0))).alloc (.cells #[.slice none 0 0, .int .i64 0, .string ⟨#[]⟩, .slice none 0 0] 30 (0,0))).heap[g]? = some (.cells #[.slice A0 n c0, .int .i64 p1, .string s2, .slice A3 k c3] 30 (0,0)) ∧
    ((w.alloc (.cells #[.slice A0 n c0, .int .i64 p1, .string s2, .slice A3 k c3] 30 (0,0))).alloc (.cells #[.slice none 0 0, .int .i64 0, .string ⟨#[]⟩, .slice none 0 0] 30 (0,0))).heap[g + 1]? = some (.cells #[.slice none 0 0, .int .i64 0, .string ⟨#[]⟩, .slice none 0 0] 30 (0,0)) from by
    refine ⟨below_alloc (below_alloc (Below.refl _ _) _) _, ?_, ?_⟩
    · exact blk_box (by rw [hg]; exact heap_alloc_new w _) _
    · exact heap_new_at (by rw [hg]; simp) _)
  go_enter Try.func24, Try.ntmps24
  go_wp2_with fail
  rw [← hg]
  generalize hV : (w.alloc (.cells #[.slice A0 n c0, .int .i64 p1, .string s2, .slice A3 k c3] 30 (0,0))).alloc (.cells #[.slice none 0 0, .int .i64 0, .string ⟨#[]⟩, .slice none 0 0] 30 (0,0)) = V at *
  clear hV
  have d0 := cellOf HB2.out.2.1 0
  have d3 := cellOf HB2.out.2.1 3
  have hgg := HB2.out.1.size
  have HG := Aside0.mk hg
  clear hg
  refine region_float (fun U => U.cell? ⟨g, 0, none⟩ = some (.slice A0 n c0) ∧ U.cell? ⟨g, 3, none⟩ = some (.slice A3 k c3)) 9 [.float 0, .float 1, .float 4, .float 5, .one 2, .one 3, .float 8, .one 6, .one 7] (by kernel_rfl) (by kernel_rfl) ⟨d0, d3⟩ ?_
  refine Pl.wp_float rfl rfl (.pointer (some ⟨g, 0, none⟩)) (fun U hU => by go_simp) (fun _ _ _ h => h) ?_
  refine Pl.wp_float rfl rfl (.slice A0 n c0) (fun U hU => by have h0 := hU.1; go_simp) (fun _ _ _ h => h) ?_
  refine Pl.wp_float rfl rfl (.pointer (some ⟨g, 3, none⟩)) (fun U hU => by go_simp) (fun _ _ _ h => h) ?_
  refine Pl.wp_float rfl rfl (.slice A3 k c3) (fun U hU => by have h0 := hU.2; go_simp) (fun _ _ _ h => h) ?_
  refine Pl.wp_one rfl rfl ?_
  go_simp
  refine Calls.mono (HM.out _ (HB2.out.1.drew)) ?_
  rintro e w3 ⟨v, rfl, ho, hb⟩
  have hb3 : Below V.heap.size V w3 := (Below.refl V.heap.size V).drew.trans hb
  have C3 := CRow.of_own ho
  obtain ⟨A1, c1, rfl, k1, k2, k3⟩ := C3.form
  have HC3 := Aside0.mk C3.clip
  have q0 := (hb3.block g (Array.getElem?_eq_some_iff.1 HB2.out.2.1).1).trans HB2.out.2.1
  have q1 := (hb3.block (g + 1) (Array.getElem?_eq_some_iff.1 HB2.out.2.2).1).trans HB2.out.2.2
  have H3 := Aside0.mk (And.intro (HB2.out.1.trans (hb3.mono HB2.out.1.size)) (And.intro q0 q1))
  have hgs : g + 1 < V.heap.size := (Array.getElem?_eq_some_iff.1 HB2.out.2.2).1
  clear hb hb3 ho d0 d3 q0 q1
  refine ⟨⟨cellOf H3.out.2.1 0, cellOf H3.out.2.1 3⟩, ?_⟩
  refine Pl.wp_one rfl rfl ?_
  go_simp
  refine Calls.mono (clipM_any A1 n c1 w3 k1 (by simpa [maxLen] using k2) k3) ?_
  rintro e w4 ⟨rfl, rfl⟩
  refine ⟨⟨cellOf H3.out.2.1 0, cellOf H3.out.2.1 3⟩, ?_⟩
  refine Pl.wp_float rfl rfl (.pointer (some ⟨g, 0, none⟩)) (fun U hU => by go_simp) (fun _ _ _ h => h) ?_
  refine Pl.wp_one rfl rfl ?_
  go_simp
  refine Calls.mono (HA.out _ H3.out.1) ?_
  rintro e w5 ⟨v, rfl, ho, hb⟩
  have C5 := CRow.of_own ho
  obtain ⟨A2, c2, rfl, j1, j2, j3⟩ := C5.form
  have q0 := (hb.block g (Array.getElem?_eq_some_iff.1 H3.out.2.1).1).trans H3.out.2.1
  have q1 := (hb.block (g + 1) (Array.getElem?_eq_some_iff.1 H3.out.2.2).1).trans H3.out.2.2
  have HC5 := Aside0.mk (And.intro (HC3.out.keep hb) C5.clip)
  have H5 := Aside0.mk (And.intro (H3.out.1.trans (hb.mono H3.out.1.size)) (And.intro q0 q1))
  clear hb ho q0 q1
  refine ⟨⟨cellOf H5.out.2.1 0, cellOf H5.out.2.1 3⟩, ?_⟩
  refine Pl.wp_one rfl rfl ?_
  go_simp
  refine Calls.mono (clipB_any A2 k c2 w5 j1 (by simpa [maxLen] using j2) j3) ?_
  rintro e w6 ⟨rfl, rfl⟩
  refine ⟨⟨cellOf H5.out.2.1 0, cellOf H5.out.2.1 3⟩, ?_⟩
  simp only [Pl.wp, List.drop]
  have d0 := cellOf H5.out.2.1 0
  have d1 := cellOf H5.out.2.1 1
  have d2 := cellOf H5.out.2.1 2
  have d3 := cellOf H5.out.2.1 3
  have e0 := cellOf H5.out.2.2 0
  have e1 := cellOf H5.out.2.2 1
  have e2 := cellOf H5.out.2.2 2
  have e3 := cellOf H5.out.2.2 3
  have z0 := frozenOf H5.out.2.1 0
  have z3 := frozenOf H5.out.2.1 3
  have y0 := frozenOf H5.out.2.2 0
  have y1 := frozenOf H5.out.2.2 1
  have y2 := frozenOf H5.out.2.2 2
  have y3 := frozenOf H5.out.2.2 3
  have ng : ¬ g = g + 1 := by omega
  have ng2 : ¬ g + 1 = g := by omega
  clear k1 k2 k3 j1 j2 j3 hgg hgs
  go_wp2_with fail
  refine bodyPost_ret (results_cell_row rfl _ _ (g + 1) 30 _ (0,0) _ rfl (set4 (far2 H5.out.2.2 ng2 0 3 _ _) _ _ _ _) Try.underlying30 rfl (by kernel_rfl)) rfl ?_
  have hwg : w.heap.size ≤ g := by rw [HG.out]; exact Nat.le_refl _
  refine ⟨_, _, rfl, ⟨?_, ?_⟩, six H5.out.1 hwg (by omega) _ _ _ _ _ _ _ _⟩
  · have h6 := (HC5.out.1).base_ (show w.heap.size ≤ V.drew.heap.size from HB2.out.1.size)
    rw [HN.out.1] at h6 ⊢
    exact h6.step (fun k' hk' => six_heap _ _ _ _ _ _ _ _ _ (by rintro rfl; obtain ⟨cur, hc⟩ := h6.typed _ hk'; rw [H5.out.2.1] at hc; injection hc with hc; injection hc with _ hc; cases hc) (by rintro rfl; obtain ⟨cur, hc⟩ := h6.typed _ hk'; rw [H5.out.2.2] at hc; injection hc with hc; injection hc with _ hc; cases hc))
  · have h6 := (HC5.out.2).base_ (show w.heap.size ≤ w4.heap.size from H3.out.1.size)
    rw [HN.out.2] at h6 ⊢
    exact h6.step (fun k' hk' => six_heap _ _ _ _ _ _ _ _ _ (by rintro rfl; obtain ⟨cur, hc⟩ := h6.typed _ hk'; rw [H5.out.2.1] at hc; injection hc with hc; injection hc with _ hc; cases hc) (by rintro rfl; obtain ⟨cur, hc⟩ := h6.typed _ hk'; rw [H5.out.2.2] at hc; injection hc with hc; injection hc with _ hc; cases hc))
end Go.Proofs.Ytdfmeclhpefmfaa.Own

/- Twins: entries in memory of their own. -/
set_option linter.unusedVariables false
set_option linter.unusedSimpArgs false
set_option maxRecDepth 100000
namespace Go.Proofs.Ytdfmeclhpefmfaa.Own
open Go.RowKit Go.Proofs.Ytdfmeclhpefmfaa.K YtdfmeclhpefmfaaW.PrintWords YtdfmeclhpefmfaaW.PrintLast YtdfmeclhpefmfaaW.PrintMore

def zEV : EV := (.slice none 0 0, .slice none 0 0)
def entsL (l : List S30) (us : List EV) : List Value := (l.zip us).flatMap (fun p => entL p.1 p.2)
/-- No list of the one is the other's. -/
def Far (a b : EV) : Prop := (∀ k, a.1.ownBlock = some k → b.1.ownBlock ≠ some k) ∧ (∀ k, a.2.ownBlock = some k → b.2.ownBlock ≠ some k)
structure Ents (W : World) (base : Nat) (l : List S30) (us : List EV) : Prop where
  len : us.length = l.length
  ok : ∀ i, i < l.length → EntOk W base (l.getD i z30) (us.getD i zEV)
  apart : us.Pairwise Far
theorem Ents.nil (W : World) (base : Nat) : Ents W base [] [] := ⟨rfl, fun i hi => by simp at hi, List.Pairwise.nil⟩
theorem Ents.keep {W W' : World} {base : Nat} {l : List S30} {us : List EV} (h : Ents W base l us) (hb : Below W.heap.size W W') : Ents W' base l us := ⟨h.len, fun i hi => (h.ok i hi).keep hb, h.apart⟩
theorem Ents.base_ {W : World} {base base' : Nat} {l : List S30} {us : List EV} (h : Ents W base l us) (hb : base' ≤ base) : Ents W base' l us := ⟨h.len, fun i hi => (h.ok i hi).base_ hb, h.apart⟩
theorem Ents.cut {W W' : World} {base : Nat} {l : List S30} {us : List EV} (h : Ents W base l us) (hm : ∀ (k : Nat) (t : TypeId) (cs : Array Value), W.heap[k]? = some (Obj.cells cs t (0, 0)) → t = 42 ∨ t = 40 → W'.heap[k]? = W.heap[k]?) : Ents W' base l us :=
  ⟨h.len, fun i hi => (h.ok i hi).cut hm, h.apart⟩
theorem Ents.step {W W' : World} {base : Nat} {l : List S30} {us : List EV} (h : Ents W base l us) (hm : ∀ k, base ≤ k → W'.heap[k]? = W.heap[k]?) : Ents W' base l us := ⟨h.len, fun i hi => (h.ok i hi).step hm, h.apart⟩
theorem entsL_len {l : List S30} {us : List EV} (h : us.length = l.length) : (entsL l us).length = l.length * 4 := by
  unfold entsL
  rw [flat_len _ 4 (fun _ => rfl), List.length_zip, h, Nat.min_self]
theorem entsL_get {l : List S30} {us : List EV} (h : us.length = l.length) (i j : Nat) (hi : i < l.length) (hj : j < 4) : (entsL l us)[i * 4 + j]? = (entL (l.getD i z30) (us.getD i zEV))[j]? := by
  unfold entsL
  rw [flat_get (fun p : S30 × EV => entL p.1 p.2) 4 (fun _ => rfl) (z30, zEV) _ i j (by rw [List.length_zip]; omega) hj]
  have e : (l.zip us).getD i (z30, zEV) = (l.getD i z30, us.getD i zEV) := by
    simp only [List.getD_eq_getElem?_getD]
    rw [List.getElem?_eq_getElem (by rw [List.length_zip]; omega), List.getElem?_eq_getElem hi, List.getElem?_eq_getElem (by omega)]
    simp
  rw [e]
theorem entsL_snoc (l : List S30) (us : List EV) (x : S30) (u : EV) (h : us.length = l.length) : entsL (l ++ [x]) (us ++ [u]) = entsL l us ++ entL x u := by
  unfold entsL
  rw [List.zip_append h.symm]
  simp
theorem Ents.snoc {W0 W : World} {base : Nat} {l : List S30} {us : List EV} {x : S30} {u : EV} (h0 : Ents W0 base l us) (hb : Below W0.heap.size W0 W) (hx : EntOk W W0.heap.size x u) (hB : base ≤ W0.heap.size) :
    Ents W base (l ++ [x]) (us ++ [u]) := by
  have h := h0.keep hb
  refine ⟨by simp [h.len], fun i hi => ?_, ?_⟩
  · rcases Nat.lt_or_ge i l.length with hlt | hge
    · have e1 : (l ++ [x]).getD i z30 = l.getD i z30 := by simp [List.getD_eq_getElem?_getD, List.getElem?_append_left hlt]
      have e2 : (us ++ [u]).getD i zEV = us.getD i zEV := by simp [List.getD_eq_getElem?_getD, List.getElem?_append_left (show i < us.length by rw [h.len]; exact hlt)]
      rw [e1, e2]
      exact h.ok i hlt
    · have hie : i = l.length := by simp at hi; omega
      subst hie
      have e1 : (l ++ [x]).getD l.length z30 = x := by simp [List.getD_eq_getElem?_getD]
      have e2 : (us ++ [u]).getD l.length zEV = u := by rw [← h.len]; simp [List.getD_eq_getElem?_getD]
      rw [e1, e2]
      exact hx.base_ hB
  · rw [List.pairwise_append]
    refine ⟨h.apart, List.pairwise_singleton _ _, fun a ha b hb => ?_⟩
    rw [List.mem_singleton.1 hb]
    obtain ⟨i, hi, rfl⟩ := List.mem_iff_getElem.1 ha
    have hi' : i < l.length := by rw [← h.len]; exact hi
    have e2 : us.getD i zEV = us[i] := by simp [List.getD_eq_getElem?_getD, List.getElem?_eq_getElem hi]
    have := h0.ok i hi'
    rw [e2] at this
    exact ⟨fun k hk hk2 => by have := (this.m.lt k hk).2; have := (hx.m.lt k hk2).1; omega, fun k hk hk2 => by have := (this.a.lt k hk).2; have := (hx.a.lt k hk2).1; omega⟩
/-- Reading them. -/
theorem Ents.reads {W : World} {base b2 c : Nat} {A : Option Addr} {l : List S30} {us : List EV} (h : Ents W base l us) (hr : CRow W b2 30 4 (.slice A l.length c) l.length (entsL l us)) (hm : l.length ≤ 9223372036854775807) : Kd.C k30 W A l.length l := by
  refine ⟨rfl, hm, fun hn => ?_⟩
  obtain ⟨g, e, hc⟩ := hr.cells hn
  refine ⟨_, e, fun j p hj => ?_⟩
  have hjl : j < l.length := by
    rcases Nat.lt_or_ge j l.length with h | h
    · exact h
    · rw [List.getElem?_eq_none h] at hj; cases hj
  have hp : l.getD j z30 = p := by rw [List.getD_eq_getElem?_getD, hj]; rfl
  have ho := h.ok j hjl
  rw [hp] at ho
  refine ⟨entL p (us.getD j zEV), rfl, ?_, fun i u hu => ?_⟩
  · obtain ⟨A1, c1, e1, g1, g2, _⟩ := ho.m.form
    obtain ⟨A2, c2, e2, g3, g4, _⟩ := ho.a.form
    have r1 := ho.m
    have r2 := ho.a
    unfold entL
    rw [e1] at r1 ⊢
    rw [e2] at r2 ⊢
    exact k30_mk W p g1 (crow_M r1 (by simp only [maxLen] at g2; omega)) g3 (crow_B r2 (by simp only [maxLen] at g4; omega))
  · have hi : i < 4 := by
      rcases Nat.lt_or_ge i 4 with h | h
      · exact h
      · rw [List.getElem?_eq_none (by simpa [entL] using h)] at hu; cases hu
    have := entsL_get h.len j i hjl hi
    rw [hp, hu] at this
    exact hc _ u this
theorem infoE : ((Try.prog.info? 30).map fun i => (i.zero, i.size, i.bytes)) = some (some (.agg #[.slice none 0 0, .int .i64 0, .string ⟨#[]⟩, .slice none 0 0]), 4, 72) := by kernel_rfl
theorem makeE (m : Nat) (h : m ≤ 1000000) : ∀ W : World, (Instr.makeSlice 26 (.int .i64 0) (.int .i64 (m : Int))).run Try.prog W = .ok (.slice (some ⟨W.heap.size, 0, none⟩) 0 m) (W.alloc (.cells (madeCells #[.slice none 0 0, .int .i64 0, .string ⟨#[]⟩, .slice none 0 0] (m * 4)) 30)) := by
  intro W
  obtain ⟨i, hi, hzz⟩ := Option.map_eq_some_iff.1 infoE
  simp only [Prod.mk.injEq] at hzz
  obtain ⟨hz, hs, hb⟩ := hzz
  have := run_make (P := Try.prog) W 26 30 i _ Try.underlying26 hi hz .i64 .i64 0 m (by omega) (by omega) (by rw [hb]; omega) (by omega)
  rw [hs] at this
  simpa [Value.cells] using this
theorem own_madeE (w : World) (m : Nat) (h : m ≤ 1000000) : (w.alloc (.cells (madeCells #[.slice none 0 0, .int .i64 0, .string ⟨#[]⟩, .slice none 0 0] (m * 4)) 30)).ownsRow w.heap.size 30 4 (.slice (some ⟨w.heap.size, 0, none⟩) 0 m) 0 [] :=
  World.ownsRow_made w _ m (Nat.le_refl _) (by simp only [maxLen]; omega) (size_madeCells _ _)

set_option maxHeartbeats 1600000 in
theorem twins_any (l : List S30) {A : Option Addr} {c : Nat} (w : World) (hr : Kd.C k30 w A l.length l) (hl : l.length ≤ 100000) (hs : ∀ x ∈ l, x.f0.length ≤ 1000000 ∧ x.f3.length ≤ 1000000) :
    Calls Try.prog 23 #[.slice A l.length c] w fun r w' => ∃ v us, r = .returned v ∧ w'.ownsRow w.heap.size 30 4 v l.length (entsL l us) ∧ Ents w' w.heap.size l us ∧ Below w.heap.size w w' := by
  have hu30 := Try.underlying30
  have HR := Aside0.mk hr
  have HS := Aside0.mk hs
  obtain ⟨n, hn⟩ : ∃ n, n = l.length := ⟨_, rfl⟩
  have HN := Aside0.mk hn
  rw [← hn] at hl ⊢
  have hw1 : IntKind.i64.wrap ((n : Int) + 1) = ((n + 1 : Nat) : Int) := by rw [IntKind.wrap_i64]; omega
  have hmk := makeE (n + 1) (by omega)
  obtain ⟨w1, hw1'⟩ : ∃ w1, w1 = w.alloc (.cells (madeCells #[.slice none 0 0, .int .i64 0, .string ⟨#[]⟩, .slice none 0 0] ((n + 1) * 4)) 30) := ⟨_, rfl⟩
  have HO := Aside0.mk (own_madeE w (n + 1) (by omega))
  have HB := Aside0.mk (below_alloc (Below.refl w.heap.size w) (.cells (madeCells #[.slice none 0 0, .int .i64 0, .string ⟨#[]⟩, .slice none 0 0] ((n + 1) * 4)) 30))
  obtain ⟨m, hm⟩ : ∃ m, m = n + 1 := ⟨_, rfl⟩
  rw [← hm] at hw1 hmk HO HB hw1'
  clear hr hs hn hm hw1'
  go_enter Try.func23, Try.ntmps23
  go_wp2_with fail
  go_loopw [3, 12] (fun v i wr => ∃ k : Nat, k ≤ n ∧ i = .int .i64 k ∧ ∃ us, Aside0 (wr.ownsRow w.heap.size 30 4 v k (entsL (l.take k) us) ∧ Ents wr w.heap.size (l.take k) us ∧ Below w.heap.size w wr)) (fun _ i _ => n - (intOf i).toNat)
  case atStart => exact ⟨0, by omega, rfl, [], HO.out, Ents.nil _ _, HB.out⟩
  case round =>
    obtain ⟨k, hk, rfl, us, HI⟩ := hrel
    by_cases hlt : k < n
    · have g3 : decide ((k : Int) < (n : Int)) = true := decide_eq_true (by omega)
      have p0 : 0 ≤ (k : Int) := by omega
      have q0 : (k : Int) < (n : Int) := by omega
      have hC := Kd.C_below HR.out HI.out.2.2
      obtain ⟨ad, A0, c0, A3, c3, rfl, x0, x1, x2, x3, l0, r0, l3, r3⟩ := at_T30 hC (k : Int) p0 (by rw [← HN.out]; exact q0)
      have HSX := Aside0.mk (HS.out (l.getD k z30) (by rw [List.getD_eq_getElem?_getD, List.getElem?_eq_getElem (by rw [← HN.out]; exact hlt)]; exact List.getElem_mem _))
      have HTK := Aside0.mk (show l.take (k + 1) = l.take k ++ [l.getD k z30] from by
        rw [List.take_add_one, List.getElem?_eq_getElem (by rw [← HN.out]; exact hlt), List.getD_eq_getElem?_getD, List.getElem?_eq_getElem (by rw [← HN.out]; exact hlt)]
        rfl)
      rw [Int.toNat_natCast] at x0 x1 x2 x3
      simp only [rd_T30, Int.toNat_natCast] at x0 x1 x2 x3 l0 r0 l3 r3
      generalize l.getD k z30 = x at *
      have HTW := Aside0.mk (fun W (hW : Below wr.heap.size wr W) => twin_any x (A0 := A0) (c0 := c0) (A3 := A3) (c3 := c3) W (Kd.C_below r0 hW) (Kd.C_below r3 hW) HSX.out.1 HSX.out.2)
      clear hC l0 r0 l3 r3
      obtain ⟨xm, xp, xs, xa⟩ := x
      simp only at x0 x1 x2 x3 HTW
      have hbx := below_alloc (Below.refl wr.heap.size wr) (.cells #[.slice A0 xm.length c0, .int .i64 xp, .string xs, .slice A3 xa.length c3] 30 (0,0))
      have HBX := Aside0.mk (And.intro hbx HI.out.2.2.size)
      clear hbx
      go_wp2_with fail
      refine Calls.mono (HTW.out _ HBX.out.1) ?_
      rintro e w3 ⟨u1, u2, rfl, hE, hb⟩
      have HU := Aside0.mk (Ents.snoc HI.out.2.1 (HBX.out.1.trans (hb.mono HBX.out.1.size)) (hE.base_ HBX.out.1.size) HBX.out.2)
      have h3 : Below wr.heap.size wr w3 := HBX.out.1.trans (hb.mono HBX.out.1.size)
      have hE1 := hE.m.form
      have hE2 := hE.a.form
      simp only at hE1 hE2
      obtain ⟨Am, cm, rfl, _⟩ := hE1
      obtain ⟨Aa, ca, rfl, _⟩ := hE2
      have HO3 := Aside0.mk ((Foot.own (Foot.ofBelow h3 (fun _ => False)) HI.out.1 (fun _ _ h => h)).alloc (.cells #[.slice Am xm.length cm, .int .i64 xp, .string xs, .slice Aa xa.length ca] 30))
      have HC := Aside0.mk (Cells.lit w3 30 #[.slice Am xm.length cm, .int .i64 xp, .string xs, .slice Aa xa.length ca] 1 4 rfl (by intro u hu; simp at hu; rcases hu with rfl | rfl | rfl | rfl <;> rfl))
      have HB4 := Aside0.mk (Nat.le_trans (Nat.le_trans HBX.out.2 h3.size) (by simp : w3.heap.size ≤ (w3.alloc (.cells #[.slice Am xm.length cm, .int .i64 xp, .string xs, .slice Aa xa.length ca] 30)).heap.size))
      have HB5 := Aside0.mk (below_alloc ((HI.out.2.2).trans (h3.mono HBX.out.2)) (.cells #[.slice Am xm.length cm, .int .i64 xp, .string xs, .slice Aa xa.length ca] 30))
      have HU4 := Aside0.mk (HU.out.keep (below_alloc (Below.refl w3.heap.size w3) (.cells #[.slice Am xm.length cm, .int .i64 xp, .string xs, .slice Aa xa.length ca] 30)))
      have HLN := Aside0.mk HI.out.2.1.len
      clear hE h3 hb HU HI x0 x1 x2 x3
      obtain ⟨vA, vL, vc, rfl, hvL⟩ := own_form HO3.out
      have HVL := Aside0.mk hvL
      clear hvL
      go_wp2_with (at_builtin; refine append_cells w.heap.size rfl _ _ 26 30 _ 4 72 rfl Try.underlying26 infoE rfl (by decide) (by decide) (.slice vA vL vc) k (entsL (l.take k) us) [.slice Am xm.length cm, .int .i64 xp, .string xs, .slice Aa xa.length ca] _ 1 1 rfl rfl HO3.out HC.out HB4.out (by omega) ?_; intro v1 w5 hown hg hat; have HW := Aside0.mk (And.intro hown (And.intro (HU4.out.cut (fun q t cs hq ht => hg.block q (Array.getElem?_eq_some_iff.1 hq).1 (by intro e; obtain ⟨cur, hc⟩ := own_typed HO3.out q e.symm; rw [hq] at hc; injection hc with hc; injection hc with _ hc; subst hc; rcases ht with h | h <;> cases h))) (HB5.out.trans (own_grown HO3.out hg HB4.out)))); clear hown hg hat)
      go_roundw
      case rel =>
        refine ⟨k + 1, by omega, by go_num, us ++ [(.slice Am xm.length cm, .slice Aa xa.length ca)], ?_, ?_, HW.out.2.2⟩
        · rw [HTK.out, entsL_snoc _ _ _ _ HLN.out]
          exact HW.out.1
        · rw [HTK.out]
          exact HW.out.2.1
      case measure => (simp [intOf]; omega)
    · obtain rfl : k = n := by omega
      have g3 : decide ((k : Int) < (k : Int)) = false := decide_eq_false (by omega)
      have HF := Aside0.mk (show l.take k = l from by rw [HN.out, List.take_length])
      go_wp2
      go_ret
      have h := HI.out
      rw [HF.out] at h
      exact ⟨_, us, rfl, h⟩
end Go.Proofs.Ytdfmeclhpefmfaa.Own

/- find: the first entry of a place. -/
set_option linter.unusedVariables false
set_option linter.unusedSimpArgs false
set_option maxRecDepth 100000
namespace Go.Proofs.Ytdfmeclhpefmfaa.Own
open Go.RowKit Go.Proofs.Ytdfmeclhpefmfaa.K YtdfmeclhpefmfaaW.PrintWords YtdfmeclhpefmfaaW.PrintLast YtdfmeclhpefmfaaW.PrintMore

def eqMB (a b : S42) : Bool := (a.f0.f0 == b.f0.f0 && (a.f0.f1 == b.f0.f1 && a.f0.f2 == b.f0.f2)) && ((a.f1.f0 == b.f1.f0 && (a.f1.f1 == b.f1.f1 && a.f1.f2 == b.f1.f2)) && a.f2 == b.f2)
theorem eqMB_iff (a b : S42) : eqMB a b = true ↔ a = b := by
  obtain ⟨⟨a0, a1, a2⟩, ⟨a3, a4, a5⟩, a6⟩ := a
  obtain ⟨⟨b0, b1, b2⟩, ⟨b3, b4, b5⟩, b6⟩ := b
  simp [eqMB, S42.mk.injEq, S40.mk.injEq, and_assoc]
def sameM : List S42 → List S42 → Bool
  | [], [] => true
  | a :: cs, b :: bs => eqMB a b && sameM cs bs
  | _, _ => false
theorem sameM_iff : ∀ a b : List S42, sameM a b = true ↔ a = b
  | [], [] => by simp [sameM]
  | [], b :: bs => by simp [sameM]
  | a :: cs, [] => by simp [sameM]
  | a :: cs, b :: bs => by simp [sameM, eqMB_iff, sameM_iff cs bs]
theorem sameM_cut (a b : List S42) (j : Nat) (h1 : j < a.length) (h2 : j < b.length) : sameM (a.drop j) (b.drop j) = (eqMB (a.getD j z42) (b.getD j z42) && sameM (a.drop (j + 1)) (b.drop (j + 1))) := by
  rw [List.drop_eq_getElem_cons h1, List.drop_eq_getElem_cons h2]
  simp [sameM, List.getD_eq_getElem?_getD, h1, h2]
theorem rdM_nat (l : List S42) (j : Nat) : rd_T42 l (j : Int) = l.getD j z42 := rfl
theorem equal_f (a b : List S42) (hl : a.length = b.length) (hmx : a.length ≤ 9223372036854775807) : ∀ (m j fuel : Nat), m = a.length - j → j ≤ a.length → m < fuel → api_Match_41.l0 fuel a b (a.length : Int) (j : Int) = some (sameM (a.drop j) (b.drop j))
  | m, j, 0, _, _, h => by omega
  | 0, j, fuel + 1, hm, hj, _ => by
    simp only [api_Match_41.l0]
    rw [if_neg (by omega), List.drop_eq_nil_of_le (by omega), List.drop_eq_nil_of_le (by omega)]
    rfl
  | m + 1, j, fuel + 1, hm, hj, hf => by
    simp only [api_Match_41.l0]
    rw [if_pos (by omega), if_pos (by omega), if_pos (by omega), if_pos (by omega), rdM_nat, rdM_nat, sameM_cut a b j (by omega) (by omega)]
    generalize a.getD j z42 = x
    generalize b.getD j z42 = y
    have hb : ((!((x.f0.f0) == (y.f0.f0)) || (!((x.f0.f1) == (y.f0.f1)) || (!((x.f0.f2) == (y.f0.f2))))) || ((!((x.f1.f0) == (y.f1.f0)) || (!((x.f1.f1) == (y.f1.f1)) || (!((x.f1.f2) == (y.f1.f2))))) || (!((x.f2) == (y.f2))))) = !eqMB x y := by
      simp [eqMB]
    rw [hb]
    cases eqMB x y with
    | true =>
      rw [if_neg (by simp), w_add1 j (by omega), equal_f a b hl hmx m (j + 1) fuel (by omega) (by omega) (by omega)]
      rfl
    | false => rfl
theorem equal_tot (a b : List S42) (hmx : a.length ≤ 9223372036854775807) : api_Match_41.f (a.length + 1) a b = some (sameM a b) := by
  unfold api_Match_41.f
  by_cases h : (a.length : Int) = (b.length : Int)
  · rw [if_pos h]
    exact equal_f a b (by omega) hmx a.length 0 _ (by omega) (by omega) (by omega)
  · rw [if_neg h]
    cases hs : sameM a b with
    | false => rfl
    | true =>
      have := (sameM_iff a b).1 hs
      subst this
      exact absurd rfl h
theorem equal_any (A0 : Option Addr) (c0 : Nat) (l0 : List S42) (A1 : Option Addr) (c1 : Nat) (l1 : List S42) (w : World) (hr0 : Kd.C k42 w A0 l0.length l0) (hc0 : l0.length ≤ c0) (hr1 : Kd.C k42 w A1 l1.length l1) (hc1 : l1.length ≤ c1) :
    Calls Try.prog 41 #[.slice A0 l0.length c0, .slice A1 l1.length c1] w fun e w' => e = .returned (.bool (sameM l0 l1)) ∧ Drawn0 w w' :=
  api_Match_41.calls _ _ _ _ _ _ _ _ w hr0 hc0 hr1 hc1 (equal_tot l0 l1 hr0.2.1)

/-- Is it of the same place? -/
def oneB (e x : S30) : Bool := x.f1 == e.f1 && sameM x.f0 e.f0
def eCells (B0 : Option Addr) (n d0 : Nat) (p : Int) (s : ByteArray) (B3 : Option Addr) (m d3 : Nat) : Array Value := #[.slice B0 n d0, .int .i64 p, .string s, .slice B3 m d3]
set_option maxHeartbeats 1600000 in
theorem find1_any (e x : S30) (A0 A3 B0 B3 : Option Addr) (c0 c3 d0 d3 b : Nat) (w : World) (hb : w.heap[b]? = some (.cells (eCells B0 e.f0.length d0 e.f1 e.f2 B3 e.f3.length d3) 30 (0, 0)))
    (hx : Kd.C k42 w A0 x.f0.length x.f0) (hxc : x.f0.length ≤ c0) (he : Kd.C k42 w B0 e.f0.length e.f0) (hec : e.f0.length ≤ d0) :
    Calls Try.prog 40 #[.agg #[.slice A0 x.f0.length c0, .int .i64 x.f1, .string x.f2, .slice A3 x.f3.length c3], .pointer (some ⟨b, 0, none⟩)] w fun r w' => r = .returned (.bool (oneB e x)) ∧ Below w.heap.size w w' := by
  have hu30 := Try.underlying30
  obtain ⟨xm, xp, xs, xa⟩ := x
  obtain ⟨em, ep, es, ea⟩ := e
  simp only at *
  have hbx := below_alloc (Below.refl w.heap.size w) (.cells #[.slice A0 xm.length c0, .int .i64 xp, .string xs, .slice A3 xa.length c3] 30 (0,0))
  have HBX := Aside0.mk hbx
  have HEQ := Aside0.mk (equal_any A0 c0 xm B0 d0 em _ (Kd.C_below hx hbx) hxc (Kd.C_below he hbx) hec)
  have hb2 := blk_box hb (.cells #[.slice A0 xm.length c0, .int .i64 xp, .string xs, .slice A3 xa.length c3] 30 (0,0))
  unfold eCells at hb2
  have f0 := cellOf hb2 0
  have f1 := cellOf hb2 1
  show Calls _ _ _ _ (fun r w' => r = .returned (.bool (xp == ep && sameM xm em)) ∧ _)
  generalize sameM xm em = r at *
  generalize xm.length = n at *
  generalize em.length = m at *
  generalize xa.length = n3 at *
  generalize ea.length = m3 at *
  clear hb hx hxc he hec hb2 hbx
  by_cases h : xp = ep
  · subst h
    have h1 : (xp == xp) = true := by simp
    rw [h1]
    go_enter Try.func40, Try.ntmps40
    go_wp2_with fail
    refine Calls.mono HEQ.out ?_
    rintro r w1 ⟨rfl, hd⟩
    go_wp2
    go_ret
    exact ⟨by simp, HBX.out.trans ((drawn_below hd).mono HBX.out.size)⟩
  · have h1 : (xp == ep) = false := by simpa using h
    rw [h1]
    clear h
    go_enter Try.func40, Try.ntmps40
    go_wp2
    go_ret
    exact ⟨by simp, HBX.out⟩
set_option maxHeartbeats 1600000 in
theorem idxE_any (e : S30) (B0 B3 : Option Addr) (d0 d3 b : Nat) (A : Option Addr) (c : Nat) (l : List S30) (w : World) (hb : w.heap[b]? = some (.cells (eCells B0 e.f0.length d0 e.f1 e.f2 B3 e.f3.length d3) 30 (0, 0)))
    (he : Kd.C k42 w B0 e.f0.length e.f0) (hec : e.f0.length ≤ d0) (hr : Kd.C k30 w A l.length l) (hc : l.length ≤ c) :
    Calls Try.prog 39 #[.slice A l.length c, .func (.func 40) #[] #[.pointer (some ⟨b, 0, none⟩)]] w fun r w' => r = .returned (.int .i64 (fIdx (oneB e) l)) ∧ Below w.heap.size w w' := by
  have hu30 := Try.underlying30
  have HR := Aside0.mk hr
  have hmx : l.length ≤ 9223372036854775807 := hr.2.1
  have H1 := Aside0.mk (fun (x : S30) (A0 A3 : Option Addr) (c0 c3 : Nat) W (hW : Below w.heap.size w W) (hx : Kd.C k42 W A0 x.f0.length x.f0) (hxc : x.f0.length ≤ c0) => find1_any e x A0 A3 B0 B3 c0 c3 d0 d3 b W ((hW.block b (Array.getElem?_eq_some_iff.1 hb).1).trans hb) hx hxc (Kd.C_below he hW) hec)
  obtain ⟨n, hn⟩ : ∃ n, n = l.length := ⟨_, rfl⟩
  rw [← hn] at hmx hc
  have HN := Aside0.mk hn
  show Calls _ _ #[.slice A l.length c, _] _ _
  rw [← hn]
  clear hr hn hb he hec
  generalize oneB e = p at *
  go_enter Try.func39, Try.ntmps39
  go_wp2
  go_loopw [8] (fun i wr => ∃ k : Nat, k ≤ n ∧ i = .int .i64 k ∧ Aside0 ((l.take k).any p = false ∧ Below w.heap.size w wr)) (fun i _ => n - (intOf i).toNat)
  case atStart => exact ⟨0, by omega, rfl, ⟨by simp, Below.refl _ _⟩⟩
  case round =>
    obtain ⟨k, hk, rfl, HI⟩ := hrel
    by_cases hlt : k < n
    · have g3 : decide ((k : Int) < (n : Int)) = true := decide_eq_true (by omega)
      have p0 : 0 ≤ (k : Int) := by omega
      have q0 : (k : Int) < (l.length : Int) := by rw [← HN.out]; omega
      have hCw : Kd.C k30 wr A l.length l := Kd.C_below HR.out HI.out.2
      have HX1 := Aside0.mk (fIdx_at p z30 l k HI.out.1 (by rw [← HN.out]; exact hlt))
      have HX2 := Aside0.mk (take_any p z30 l k (by rw [← HN.out]; exact hlt) HI.out.1)
      obtain ⟨ad, A0, c0, A3, c3, rfl, x0, x1, x2, x3, l0, r0, l3, r3⟩ := at_T30 hCw (k : Int) p0 q0
      rw [Int.toNat_natCast] at x0 x1 x2 x3
      simp only [rd_T30, Int.toNat_natCast] at x0 x1 x2 x3 l0 r0 l3 r3
      clear p0 q0 hCw HR
      have HC1 := Aside0.mk (H1.out (l.getD k z30) A0 A3 c0 c3 wr HI.out.2 r0 l0)
      clear l0 r0 l3 r3
      generalize l.getD k z30 = x at *
      cases hp : p x with
      | true =>
        have HF := Aside0.mk (HX1.out hp)
        rw [hp] at HC1
        clear hp HX1 HX2 H1
        obtain ⟨xm, xp, xs, xa⟩ := x
        simp only at x0 x1 x2 x3 HC1
        go_wp2_with fail
        refine Calls.mono HC1.out ?_
        rintro e w2 ⟨rfl, hd⟩
        go_wp2
        go_ret
        exact ⟨by rw [HF.out]; rfl, HI.out.2.trans (hd.mono HI.out.2.size)⟩
      | false =>
        have HF := Aside0.mk (HX2.out hp)
        rw [hp] at HC1
        clear hp HX1 HX2 H1
        obtain ⟨xm, xp, xs, xa⟩ := x
        simp only at x0 x1 x2 x3 HC1
        go_wp2_with fail
        refine Calls.mono HC1.out ?_
        rintro e w2 ⟨rfl, hd⟩
        go_wp2
        go_roundw
        case rel => exact ⟨k + 1, by omega, by go_num, HF.out, HI.out.2.trans (hd.mono HI.out.2.size)⟩
        case measure => (simp [intOf]; omega)
    · obtain rfl : k = n := by omega
      have g3 : decide ((k : Int) < (k : Int)) = false := decide_eq_false (by omega)
      have HF := Aside0.mk (fIdx_none p l (by have := HI.out.1; rwa [HN.out, List.take_length] at this))
      clear H1 HR
      go_wp2
      go_ret
      exact ⟨by rw [HF.out]; rfl, HI.out.2⟩
/-- The place of an entry; below 0: none. -/
def placeE (l : List S30) (e : S30) : Int := fIdx (oneB e) l
set_option maxHeartbeats 1600000 in
theorem find_any (e : S30) (B0 B3 : Option Addr) (d0 d3 : Nat) (A : Option Addr) (c : Nat) (l : List S30) (w : World)
    (he : Kd.C k42 w B0 e.f0.length e.f0) (hec : e.f0.length ≤ d0) (hr : Kd.C k30 w A l.length l) (hc : l.length ≤ c) :
    Calls Try.prog 21 #[.slice A l.length c, .agg #[.slice B0 e.f0.length d0, .int .i64 e.f1, .string e.f2, .slice B3 e.f3.length d3]] w fun r w' => r = .returned (.int .i64 (placeE l e)) ∧ Below w.heap.size w w' := by
  have hmf : ∀ (fn : Fn) (first cap : Array Value) (w : World), (Instr.makeFunc fn first cap).run Try.prog w = .ok (.func fn first cap) w := fun _ _ _ _ => rfl
  have hu30 := Try.underlying30
  have hbx := below_alloc (Below.refl w.heap.size w) (.cells (eCells B0 e.f0.length d0 e.f1 e.f2 B3 e.f3.length d3) 30 (0,0))
  have HX := Aside0.mk (idxE_any e B0 B3 d0 d3 w.heap.size A c l _ (heap_alloc_new w _) (Kd.C_below he hbx) hec (Kd.C_below hr hbx) hc)
  have HB := Aside0.mk hbx
  unfold placeE
  unfold eCells at HX HB
  clear hbx he hec hr hc
  generalize fIdx (oneB e) l = r at *
  generalize l.length = n at *
  obtain ⟨em, ep, es, ea⟩ := e
  simp only at HX HB ⊢
  generalize em.length = m at *
  generalize ea.length = m3 at *
  go_enter Try.func21, Try.ntmps21
  go_wp2_with fail
  refine Calls.mono HX.out ?_
  rintro e w2 ⟨rfl, hd⟩
  go_wp2
  go_ret
  exact ⟨rfl, HB.out.trans (hd.mono HB.out.size)⟩
end Go.Proofs.Ytdfmeclhpefmfaa.Own

/- Do keys fit a table? -/
set_option linter.unusedVariables false
set_option linter.unusedSimpArgs false
set_option maxRecDepth 100000
namespace Go.Proofs.Ytdfmeclhpefmfaa.Own
open Go.RowKit Go.Proofs.Ytdfmeclhpefmfaa.K YtdfmeclhpefmfaaW.PrintWords YtdfmeclhpefmfaaW.PrintLast YtdfmeclhpefmfaaW.PrintMore

def fit1 (b : S40) (w : Int) : Bool := okB b && b.f0 == w
theorem fit1_any (b : S40) (wd : Int) (w : World) : Calls Try.prog 25 #[bV b, .int .i64 wd] w fun e w' => e = .returned (.bool (fit1 b wd)) ∧ Below w.heap.size w w' := match_Find_1.calls _ _ _ _ _ w (by
  unfold match_Find_1.f fit1
  rw [check_f b]
  cases okB b <;> rfl)
def fitsB (keys : List S40) (ws : List Int) : Bool := keys.length == ws.length && (List.range keys.length).all (fun j => fit1 (keys.getD j z40) (ws.getD j 0))
theorem fitsB_iff (keys : List S40) (ws : List Int) : fitsB keys ws = true ↔ keys.length = ws.length ∧ ∀ j, j < keys.length → fit1 (keys.getD j z40) (ws.getD j 0) = true := by
  simp [fitsB, List.all_eq_true, List.mem_range]
theorem fitsB_no (keys : List S40) (ws : List Int) (j : Nat) (hj : j < keys.length) (h : fit1 (keys.getD j z40) (ws.getD j 0) = false) : fitsB keys ws = false := by
  cases hk : fitsB keys ws with
  | false => rfl
  | true =>
    have := ((fitsB_iff keys ws).1 hk).2 j hj
    rw [h] at this
    cases this
set_option maxHeartbeats 1600000 in
theorem fits_any (keys : List S40) (ws : List Int) (A : Option Addr) (c : Nat) (B : Option Addr) (d : Nat) (w : World) (hk : Kd.C k40 w A keys.length keys) (hw : Kd.C (Kd.int .i64) w B ws.length ws) :
    Calls Try.prog 28 #[.slice A keys.length c, .slice B ws.length d, .func (.func 25) #[] #[]] w fun e w' => e = .returned (.bool (fitsB keys ws)) ∧ Below w.heap.size w w' := by
  have hu40 := Try.underlying40
  have HK := Aside0.mk hk
  have HW := Aside0.mk hw
  have hmx : keys.length ≤ 9223372036854775807 := hk.2.1
  have H1 := Aside0.mk fit1_any
  obtain ⟨rv, hrv⟩ : ∃ rv, rv = fitsB keys ws := ⟨_, rfl⟩
  rw [← hrv]
  have HRV := Aside0.mk hrv
  obtain ⟨n, hn⟩ : ∃ n, n = keys.length := ⟨_, rfl⟩
  obtain ⟨m, hm⟩ : ∃ n, n = ws.length := ⟨_, rfl⟩
  rw [← hn] at hmx ⊢
  rw [← hm]
  have HN := Aside0.mk (And.intro hn hm)
  clear hk hw hn hm hrv
  by_cases hne : n = m
  · subst hne
    have g2 : ((n : Int) != (n : Int)) = false := by simp
    go_enter Try.func28, Try.ntmps28
    go_wp2_with fail
    go_loopw [17] (fun i wr => ∃ k : Nat, k ≤ n ∧ i = .int .i64 k ∧ Aside0 ((∀ j, j < k → fit1 (keys.getD j z40) (ws.getD j 0) = true) ∧ Below w.heap.size w wr)) (fun i _ => n - (intOf i).toNat)
    case atStart => exact ⟨0, by omega, rfl, fun j hj => by omega, Below.refl _ _⟩
    case round =>
      obtain ⟨k, hk, rfl, HI⟩ := hrel
      by_cases hlt : k < n
      · have g3 : decide ((k : Int) < (n : Int)) = true := decide_eq_true (by omega)
        have p0 : 0 ≤ (k : Int) := by omega
        have q0 : (k : Int) < (n : Int) := by omega
        obtain ⟨ad, rfl, x0, x1, x2⟩ := at_T40 (Kd.C_below HK.out HI.out.2) (k : Int) p0 (by rw [← HN.out.1]; exact q0)
        obtain ⟨bd, rfl, y00⟩ := Kd.at_int (Kd.C_below HW.out HI.out.2) (k : Int) p0 (by rw [← HN.out.2]; exact q0)
        have y0 : wr.cell? (bd.add k) = some (.int .i64 (ws.getD k 0)) := y00
        rw [Int.toNat_natCast] at x0 x1 x2
        simp only [rd_T40, Int.toNat_natCast] at x0 x1 x2
        clear y00
        have HX1 := Aside0.mk (fitsB_no keys ws k (by rw [← HN.out.1]; exact hlt))
        have HX2 := Aside0.mk (show fit1 (keys.getD k z40) (ws.getD k 0) = true → ∀ j, j < k + 1 → fit1 (keys.getD j z40) (ws.getD j 0) = true from fun h j hj => by
          rcases Nat.lt_or_ge j k with hl | hl
          · exact HI.out.1 j hl
          · obtain rfl : j = k := by omega
            exact h)
        generalize keys.getD k z40 = b at *
        generalize ws.getD k 0 = wd at *
        have HC1 := Aside0.mk (fun W => H1.out b wd W)
        have HBX := Aside0.mk (below_alloc (Below.refl wr.heap.size wr) (.cells #[.int .i64 b.f0, .int .u64 b.f1, .int .u64 b.f2] 40 (0,0)))
        have y1 : (wr.alloc (.cells #[.int .i64 b.f0, .int .u64 b.f1, .int .u64 b.f2] 40 (0,0))).cell? (bd.add k) = some (.int .i64 wd) := (HBX.out.cell (World.block_lt_of_cell? wr _ y0)).trans y0
        generalize hr : fit1 b wd = r at *
        clear hr H1
        obtain ⟨b0, b1, b2⟩ := b
        simp only [bV] at *
        go_wp2_with fail
        refine Calls.mono (HC1.out _) ?_
        rintro e w2 ⟨rfl, hd⟩
        have hB := HI.out.2.trans ((HBX.out.trans (hd.mono HBX.out.size)).mono HI.out.2.size)
        cases r with
        | true =>
          go_wp2
          go_roundw
          case rel => exact ⟨k + 1, by omega, by go_num, HX2.out (by simp), hB⟩
          case measure => (simp [intOf]; omega)
        | false =>
          go_wp2
          go_ret
          exact ⟨by rw [HRV.out, HX1.out (by simp)]; rfl, hB⟩
      · obtain rfl : k = n := by omega
        have g3 : decide ((k : Int) < (k : Int)) = false := decide_eq_false (by omega)
        have HALL := Aside0.mk ((fitsB_iff keys ws).2 ⟨by rw [← HN.out.1, ← HN.out.2], fun j hj => HI.out.1 j (by rw [HN.out.1]; exact hj)⟩)
        go_wp2
        go_ret
        exact ⟨by rw [HRV.out, HALL.out]; rfl, HI.out.2⟩
  · have g2 : ((n : Int) != (m : Int)) = true := by simp; omega
    have HNO := Aside0.mk (show fitsB keys ws = false from by
      unfold fitsB
      rw [← HN.out.1, ← HN.out.2]
      simp [hne])
    go_enter Try.func28, Try.ntmps28
    go_wp2
    go_ret
    exact ⟨by rw [HRV.out, HNO.out]; rfl, Below.refl _ _⟩
end Go.Proofs.Ytdfmeclhpefmfaa.Own

/- hits: the iterator over the entries that match. -/
set_option linter.unusedVariables false
set_option linter.unusedSimpArgs false
set_option maxRecDepth 100000
namespace Go.Proofs.Ytdfmeclhpefmfaa.Own
open Go.RowKit Go.Shelf Go.Proofs.Ytdfmeclhpefmfaa.K YtdfmeclhpefmfaaW.PrintWords YtdfmeclhpefmfaaW.PrintLast YtdfmeclhpefmfaaW.PrintMore
attribute [local go_sem] Oper.semAt_some

/-- Behind a round all cells that lay there and are none of F's lie as they lay, and what is elder than n0. -/
structure Kq (F : Nat → Prop) (n0 : Nat) (A B : World) : Prop where
  k : KeepC F A B
  b : Below n0 A B
section
variable {F : Nat → Prop} {n0 : Nat} {A B C : World}
theorem Kq.refl (F : Nat → Prop) (n0 : Nat) (A : World) : Kq F n0 A A := ⟨KeepC.refl _ _, Below.refl _ _⟩
theorem Kq.trans (h : Kq F n0 A B) (k : Kq F n0 B C) : Kq F n0 A C := ⟨h.k.trans k.k, h.b.trans k.b⟩
theorem Kq.ofBelow (h : Below A.heap.size A B) (hn : n0 ≤ A.heap.size) : Kq F n0 A B := ⟨KeepC.ofFoot (Foot.ofBelow h F), h.mono hn⟩
theorem Kq.setCell (W : World) {p : Addr} (hp : F p.block) (hn : n0 ≤ p.block) (u : Value) : Kq F n0 W (W.setCell p u) := ⟨KeepC.ofFoot ((Foot.refl F W).setCell (.inl hp) u), (Below.refl _ _).setCell hn u⟩
theorem kq_b (F : Nat → Prop) (n0 : Nat) (w : World) (hn : n0 ≤ w.heap.size) (W : World) (l : Nat) (o o' : Obj) (hl : w.heap.size ≤ l) (h : W.heap[l]? = some o) (hc : o.isCells = false) (_ : o.isWalk = false) : Kq F n0 W (W.putObj l o') :=
  ⟨KeepC.putObj W l o o' h hc, ⟨rfl, rfl, rfl, by simp, fun k hk => World.putObj_heap_other (by rintro rfl; omega)⟩⟩
end
theorem grown_of_below {W W' : World} (h : Below W.heap.size W W') : W.grownBy W' none := ⟨h.os, h.tape, h.output, h.size, fun k hk _ => h.block k hk⟩
/-- Does an entry match? -/
def hitsE (ks : List Int) (keys : List S40) (x : S30) : Bool := x.f0.length == keys.length && (List.range keys.length).all (fun j => (x.f0.getD j z42).f0.f0 == (keys.getD j z40).f0 && hitsB (ks.getD j 0) (x.f0.getD j z42) (keys.getD j z40))
def hitsTo (ks : List Int) (keys : List S40) (l : List S30) (k : Nat) : List Nat := (List.range k).filter (fun i => hitsE ks keys (l.getD i z30))
theorem hitsTo_yes (ks : List Int) (keys : List S40) (l : List S30) (k : Nat) (h : hitsE ks keys (l.getD k z30) = true) : hitsTo ks keys l (k + 1) = hitsTo ks keys l k ++ [k] := by
  unfold hitsTo
  rw [List.range_succ, List.filter_append]
  simp only [List.filter_cons, List.filter_nil, h]
  simp
theorem hitsTo_no (ks : List Int) (keys : List S40) (l : List S30) (k : Nat) (h : hitsE ks keys (l.getD k z30) = false) : hitsTo ks keys l (k + 1) = hitsTo ks keys l k := by
  unfold hitsTo
  rw [List.range_succ, List.filter_append]
  simp only [List.filter_cons, List.filter_nil, h]
  simp
theorem hitsTo_pre (ks : List Int) (keys : List S40) (l : List S30) (k n : Nat) (h : k ≤ n) : hitsTo ks keys l k <+: hitsTo ks keys l n := by
  unfold hitsTo
  obtain ⟨d, rfl⟩ := Nat.exists_eq_add_of_le h
  rw [List.range_add, List.filter_append]
  exact List.prefix_append _ _
/-- The entry's cells at a place. -/
def ecAt (w : World) (ad : Addr) (i : Nat) : Array Value := #[(w.cell? (ad.add (i * 4))).getD undef, (w.cell? ⟨(ad.add (i * 4)).block, (ad.add (i * 4)).off + 1, none⟩).getD undef, (w.cell? ⟨(ad.add (i * 4)).block, (ad.add (i * 4)).off + 2, none⟩).getD undef, (w.cell? ⟨(ad.add (i * 4)).block, (ad.add (i * 4)).off + 3, none⟩).getD undef]
def ecOf (w : World) (A : Option Addr) (i : Nat) : Array Value := match A with | some ad => ecAt w ad i | none => #[]
/-- What stands there: two slices, a priority, a name. -/
theorem ec_at {w W : World} {A : Option Addr} {l : List S30} (h : Kd.C k30 w A l.length l) (hb : Below w.heap.size w W) (i : Nat) (hi : i < l.length) : ∃ ad A0 c0 A3 c3, A = some ad ∧ ecOf w A i = #[.slice A0 (l.getD i z30).f0.length c0, .int .i64 (l.getD i z30).f1, .string (l.getD i z30).f2, .slice A3 (l.getD i z30).f3.length c3] ∧
    W.cell? (ad.add (i * 4)) = some (.slice A0 (l.getD i z30).f0.length c0) ∧ W.cell? ⟨(ad.add (i * 4)).block, (ad.add (i * 4)).off + 1, none⟩ = some (.int .i64 (l.getD i z30).f1) ∧ W.cell? ⟨(ad.add (i * 4)).block, (ad.add (i * 4)).off + 2, none⟩ = some (.string (l.getD i z30).f2) ∧ W.cell? ⟨(ad.add (i * 4)).block, (ad.add (i * 4)).off + 3, none⟩ = some (.slice A3 (l.getD i z30).f3.length c3) ∧
    (l.getD i z30).f0.length ≤ c0 ∧ Kd.C k42 W A0 (l.getD i z30).f0.length (l.getD i z30).f0 := by
  obtain ⟨ad, A0, c0, A3, c3, rfl, x0, x1, x2, x3, l0, r0, l3, r3⟩ := at_T30 h (i : Int) (by omega) (by omega)
  rw [Int.toNat_natCast] at x0 x1 x2 x3
  simp only [rd_T30, Int.toNat_natCast] at x0 x1 x2 x3 l0 r0 l3 r3
  have key : ∀ {p : Addr} {v : Value}, w.cell? p = some v → W.cell? p = some v := fun hc => (hb.cell (World.block_lt_of_cell? w _ hc)).trans hc
  refine ⟨ad, A0, c0, A3, c3, rfl, ?_, key x0, key x1, key x2, key x3, l0, Kd.C_below r0 hb⟩
  show ecAt w ad i = _
  unfold ecAt
  rw [x0, x1, x2, x3]
  rfl
/-- The way of a kind that tells whether a match matches, as a function of the program. -/
theorem hits_way (p q : Nat) (kd : Int) (hkd : kd = 1 ∨ kd = 2 ∨ kd = 3 ∨ kd = 4) : ∃ fn : Nat, (kindsC p q)[kd.toNat * 2 + 1]? = some (.func (.func fn) #[] #[]) ∧ (∀ args w, (callFunc fn args).run Try.prog w = .ok (.enter fn args) w) ∧ ∀ (m : S42) (key : S40) (w : World), Calls Try.prog fn #[mV m, bV key] w fun e w' => e = .returned (.bool (hitsB kd m key)) ∧ Below w.heap.size w w' := by
  rcases hkd with rfl | rfl | rfl | rfl
  · exact ⟨59, rfl, enters_of Try.func59 (by kernel_rfl) rfl, hits1_any⟩
  · exact ⟨62, rfl, enters_of Try.func62 (by kernel_rfl) rfl, hits2_any⟩
  · exact ⟨65, rfl, enters_of Try.func65 (by kernel_rfl) rfl, hits3_any⟩
  · exact ⟨68, rfl, enters_of Try.func68 (by kernel_rfl) rfl, hits4_any⟩

set_option maxHeartbeats 4000000 in
theorem hits1_in (F : Nat → Prop) (lb : Nat) (bl bk bt : Nat) (A : Option Addr) (c : Nat) (l : List S30) (K : Option Addr) (kc : Nat) (keys : List S40) (T : Option Addr) (tc : Nat) (ks : List Int) (T2 : Option Addr) (td : Nat) (ws : List Int) (sz : Int) (w : World)
    (hl : Kd.C k30 w A l.length l) (hkeys : Kd.C k40 w K keys.length keys) (ht : Kd.C (Kd.int .u8) w T ks.length ks) (hlen : keys.length = ks.length) (hkd : ∀ j, j < ks.length → badK (ks.getD j 0) = false)
    (hFl : ¬ F bl) (hFk : ¬ F bk) (hFt : ¬ F bt) (J : List Nat → World → Prop)
    (W : World) (hB : Below w.heap.size w W) (hFW : ∀ k, F k → k < W.heap.size) (hJ : AbidesFrom W.heap.size J)
    (hY : ∀ pre x W1, (pre ++ [x]) <+: hitsTo ks keys l l.length → J pre W1 → YieldAt Fence.wide 1 Try.prog lb #[.int .i64 (x : Nat), .agg (ecOf w A x)] W1 fun e W' => e = .returned (.bool true) ∧ J (pre ++ [x]) W' ∧ Kq F w.heap.size W1 W')
    (hbl : W.heap[bl]? = some (.cells #[.slice A l.length c] 26 (0,0))) (hbk : W.heap[bk]? = some (.cells #[.slice K keys.length kc] 28 (0,0))) (hbt : W.heap[bt]? = some (.cells #[.slice T ks.length tc, .slice T2 ws.length td, .int .i64 sz] 25 (0,0))) (h0 : J [] W) :
    CallsIn Fence.wide 2 Try.prog 53 #[.func (.yield lb) #[] #[], .pointer (some ⟨bl, 0, none⟩), .pointer (some ⟨bk, 0, none⟩), .pointer (some ⟨bt, 0, none⟩)] W fun e W' => (∃ v, e = .returned v) ∧ J (hitsTo ks keys l l.length) W' := by
  have hu25 := Try.underlying25
  have hu30 := Try.underlying30
  have hu42 := Try.underlying42
  have hu40 := Try.underlying40
  have hu77 := Try.underlying77
  have hu76 := Try.underlying76
  refine callsIn_of_wp Try.func53 rfl trivial ?_ rfl
  simp only [Try.ntmps53, List.size_toArray, List.length_cons, List.length_nil, Nat.reduceAdd, Nat.reduceSub, Array.replicate_succ, Array.replicate_zero, List.push_toArray, List.append_toArray, List.nil_append, List.cons_append]
  have HL := Aside0.mk hl
  have HK := Aside0.mk hkeys
  have HT := Aside0.mk ht
  have HKD := Aside0.mk hkd
  have HB := Aside0.mk hB
  have HBX := Aside0.mk (And.intro hbl (And.intro hbk hbt))
  have HJ := Aside0.mk hJ
  have HY := Aside0.mk hY
  have HKS := Aside0.mk (kinds_any W)
  have HF := Aside0.mk (And.intro hFl (And.intro hFk (And.intro hFt hFW)))
  have hmx : l.length ≤ 9223372036854775807 := hl.2.1
  have HJ0 := Aside0.mk h0
  obtain ⟨n, hn⟩ : ∃ n, n = l.length := ⟨_, rfl⟩
  obtain ⟨m, hm⟩ : ∃ n, n = keys.length := ⟨_, rfl⟩
  have HN := Aside0.mk (And.intro hn (And.intro hm (hm.trans hlen)))
  have hmk : keys.length ≤ 9223372036854775807 := hkeys.2.1
  clear hl hkeys ht hkd hB hJ hY hFl hFk hFt hFW hlen hbl hbk hbt h0 hn hm
  refine wpIn_wide.2 ?_
  apply wp_scope_straight
  go_wp2_with fail
  refine Calls.mono HKS.out ?_
  rintro e w4 ⟨p, q, rfl, hp, hq, hb⟩
  have HW := Aside0.mk (And.intro (hb.trans ((below_alloc (Below.refl w4.heap.size w4) (.cells (kindsC p q) 77 (0,0))).mono hb.size)) (heap_alloc_new w4 (.cells (kindsC p q) 77 (0,0))))
  have hbl := (HW.out.1.block bl (Array.getElem?_eq_some_iff.1 HBX.out.1).1).trans HBX.out.1
  have c0 := cellOf hbl 0
  obtain ⟨g5, hg5⟩ : ∃ g, g = w4.heap.size := ⟨_, rfl⟩
  have hg5n : ¬ F g5 := fun h => by
    have h1 := HF.out.2.2.2 _ h
    have h2 := hb.size
    omega
  have HG5 := Aside0.mk (And.intro hg5 hg5n)
  clear hp hq hb hbl hg5 hg5n
  simp only [kindsC] at c0 HW ⊢
  have HV5 := Aside0.mk (And.intro (HJ.out _ _ _ none HJ0.out (grown_of_below HW.out.1) (fun r e => by cases e)) (HB.out.trans (HW.out.1.mono HB.out.size)))
  go_wp2
  go_step3
  go_wp2_with fail
  generalize hV5 : w4.alloc (.cells #[.nilFunc, .nilFunc, .func (.func 58) #[] #[.pointer (some ⟨p, 0, none⟩)], .func (.func 59) #[] #[], .func (.func 60) #[] #[.pointer (some ⟨p, 0, none⟩)], .func (.func 62) #[] #[], .func (.func 64) #[] #[.pointer (some ⟨q, 0, none⟩)], .func (.func 65) #[] #[], .func (.func 66) #[] #[.pointer (some ⟨q, 0, none⟩)], .func (.func 68) #[] #[]] 77) = V5 at *
  clear hV5 c0
  rw [← HG5.out.1]
  go_loopw [13] (fun i wr => ∃ k : Nat, k ≤ l.length ∧ i = .int .i64 k ∧ Aside0 (J (hitsTo ks keys l k) wr ∧ Kq F w.heap.size V5 wr)) (fun i _ => l.length - (intOf i).toNat)
  case atStart => exact ⟨0, by omega, rfl, HV5.out.1, Kq.refl _ _ _⟩
  case round =>
    obtain ⟨k, hk, rfl, HI⟩ := hrel
    by_cases hlt : k < l.length
    · have g3 : decide ((k : Int) < (l.length : Int)) = true := decide_eq_true (by omega)
      have p0 : 0 ≤ (k : Int) := by omega
      have q0 : (k : Int) < (l.length : Int) := by omega
      have HBr := Aside0.mk (HV5.out.2.trans HI.out.2.b)
      obtain ⟨ad, A0, c0, A3, c3, rfl, heq, x0, x1, x2, x3, l0, r0⟩ := ec_at HL.out HBr.out k hlt
      have HEC := Aside0.mk heq
      have HYES := Aside0.mk (hitsTo_yes ks keys l k)
      have HNOT := Aside0.mk (hitsTo_no ks keys l k)
      have HPRE := Aside0.mk (hitsTo_pre ks keys l (k + 1) l.length (by omega))
      have HBX5 := Aside0.mk (show wr.heap[bl]? = some (.cells #[.slice (some ad) l.length c] 26 (0,0)) ∧ wr.heap[bk]? = some (.cells #[.slice K keys.length kc] 28 (0,0)) ∧ wr.heap[bt]? = some (.cells #[.slice T ks.length tc, .slice T2 ws.length td, .int .i64 sz] 25 (0,0)) ∧ wr.heap[g5]? = some (.cells (kindsC p q) 77 (0,0)) from by
        have h5 := HW.out.1
        refine ⟨HI.out.2.k.block _ _ _ _ ((h5.block bl (Array.getElem?_eq_some_iff.1 HBX.out.1).1).trans HBX.out.1) HF.out.1, HI.out.2.k.block _ _ _ _ ((h5.block bk (Array.getElem?_eq_some_iff.1 HBX.out.2.1).1).trans HBX.out.2.1) HF.out.2.1, HI.out.2.k.block _ _ _ _ ((h5.block bt (Array.getElem?_eq_some_iff.1 HBX.out.2.2).1).trans HBX.out.2.2) HF.out.2.2.1, ?_⟩
        rw [HG5.out.1]
        exact HI.out.2.k.block _ _ _ _ HW.out.2 (by rw [← HG5.out.1]; exact HG5.out.2))
      generalize hxk : l.getD k z30 = x at *
      have HXK := Aside0.mk hxk
      clear hxk
      have HR0 := Aside0.mk (And.intro l0 r0)
      clear heq l0 r0
      obtain ⟨xm, xp, xs, xa⟩ := x
      simp only at x0 x1 x2 x3 HR0 HEC
      have hbx := below_alloc (Below.refl wr.heap.size wr) (.cells #[.slice A0 xm.length c0, .int .i64 xp, .string xs, .slice A3 xa.length c3] 30 (0,0))
      have HX := Aside0.mk (And.intro hbx (heap_alloc_new wr (.cells #[.slice A0 xm.length c0, .int .i64 xp, .string xs, .slice A3 xa.length c3] 30 (0,0))))
      have d0 := cellOf ((hbx.block bk (Array.getElem?_eq_some_iff.1 HBX5.out.2.1).1).trans HBX5.out.2.1) 0
      have HJX := Aside0.mk (HJ.out _ _ _ none HI.out.1 (grown_of_below hbx) (fun r e => by cases e))
      clear hbx
      obtain ⟨wo, hwo⟩ : ∃ wo : World, wo = wr := ⟨_, rfl⟩
      subst hwo
      by_cases hne : xm.length = keys.length
      · have b1 : ((xm.length : Int) != (keys.length : Int)) = false := by simp [hne]
        have HNE := Aside0.mk hne
        clear hne
        have HGB := Aside0.mk (show Below w.heap.size w (wo.alloc (.cells #[.slice A0 xm.length c0, .int .i64 xp, .string xs, .slice A3 xa.length c3] 30 (0,0))) from HBr.out.trans (HX.out.1.mono HBr.out.size))
        obtain ⟨g7, hg7⟩ : ∃ g, g = wo.heap.size := ⟨_, rfl⟩
        go_wp2_with fail
        generalize hV6 : wo.alloc (.cells #[.slice A0 xm.length c0, .int .i64 xp, .string xs, .slice A3 xa.length c3] 30 (0,0)) = V6 at *
        have HV6 := Aside0.mk (show V6.heap[bk]? = some (.cells #[.slice K keys.length kc] 28 (0,0)) ∧ V6.heap[bt]? = some (.cells #[.slice T ks.length tc, .slice T2 ws.length td, .int .i64 sz] 25 (0,0)) ∧ V6.heap[g5]? = some (.cells (kindsC p q) 77 (0,0)) ∧ V6.heap[g7]? = some (.cells #[.slice A0 xm.length c0, .int .i64 xp, .string xs, .slice A3 xa.length c3] 30 (0,0)) ∧ Kd.C k42 V6 A0 xm.length xm from
          ⟨(HX.out.1.block bk (Array.getElem?_eq_some_iff.1 HBX5.out.2.1).1).trans HBX5.out.2.1, (HX.out.1.block bt (Array.getElem?_eq_some_iff.1 HBX5.out.2.2.1).1).trans HBX5.out.2.2.1, (HX.out.1.block g5 (Array.getElem?_eq_some_iff.1 HBX5.out.2.2.2).1).trans HBX5.out.2.2.2, by rw [hg7]; exact HX.out.2, Kd.C_below HR0.out.2 HX.out.1⟩)
        rw [← hg7]
        clear hV6 hg7 d0 x0 x1 x2 x3
        go_loopw [27] (fun i wr => ∃ j : Nat, j ≤ xm.length ∧ i = .int .i64 j ∧ Aside0 ((∀ t, t < j → ((xm.getD t z42).f0.f0 == (keys.getD t z40).f0 && hitsB (ks.getD t 0) (xm.getD t z42) (keys.getD t z40)) = true) ∧ Below V6.heap.size V6 wr)) (fun i _ => xm.length - (intOf i).toNat)
        case atStart => exact ⟨0, by omega, rfl, fun t ht => by omega, Below.refl _ _⟩
        case round =>
          obtain ⟨j, hj, rfl, HI2⟩ := hrel
          by_cases hjl : j < xm.length
          · have g4 : decide ((j : Int) < (xm.length : Int)) = true := decide_eq_true (by omega)
            have j0 : 0 ≤ (j : Int) := by omega
            have j1 : (j : Int) < (xm.length : Int) := by omega
            have j2 : (j : Int) < (keys.length : Int) := by rw [← HNE.out]; exact j1
            have j3 : (j : Int) < (ks.length : Int) := by rw [← HN.out.2.2, HN.out.2.1]; exact j2
            obtain ⟨am, rfl, y0, y1, y2, y3, y4, y5, y6⟩ := at_T42 (Kd.C_below HV6.out.2.2.2.2 HI2.out.2) (j : Int) j0 j1
            have HBW := Aside0.mk (HGB.out.trans (HI2.out.2.mono HGB.out.size))
            obtain ⟨ak, rfl, z0, z1, z2⟩ := at_T40 (Kd.C_below HK.out HBW.out) (j : Int) j0 j2
            obtain ⟨at_, rfl, z30⟩ := Kd.at_int (Kd.C_below HT.out HBW.out) (j : Int) j0 j3
            have z3 : wr.cell? (at_.add j) = some (.int .u8 (ks.getD j 0)) := z30
            rw [Int.toNat_natCast] at y0 y1 y2 y3 y4 y5 y6 z0 z1 z2
            simp only [rd_T42, rd_T40, Int.toNat_natCast] at y0 y1 y2 y3 y4 y5 y6 z0 z1 z2
            have hkd := bad_some _ (HKD.out j (by omega))
            have HSTEP := Aside0.mk (show ((xm.getD j z42).f0.f0 == (keys.getD j z40).f0 && hitsB (ks.getD j 0) (xm.getD j z42) (keys.getD j z40)) = true → ∀ t, t < j + 1 → ((xm.getD t z42).f0.f0 == (keys.getD t z40).f0 && hitsB (ks.getD t 0) (xm.getD t z42) (keys.getD t z40)) = true from fun h t ht => by
              rcases Nat.lt_or_ge t j with hl | hl
              · exact HI2.out.1 t hl
              · obtain rfl : t = j := by omega
                exact h)
            have HFAIL := Aside0.mk (show ((xm.getD j z42).f0.f0 == (keys.getD j z40).f0 && hitsB (ks.getD j 0) (xm.getD j z42) (keys.getD j z40)) = false → hitsTo ks keys l (k + 1) = hitsTo ks keys l k from fun h => HNOT.out (by
              unfold hitsE
              rw [Bool.and_eq_false_iff]
              refine .inr ?_
              rw [List.all_eq_false]
              exact ⟨j, by rw [List.mem_range, ← HNE.out]; exact hjl, by rw [h]; simp⟩))
            obtain ⟨fn, hfn, hent, hway⟩ := hits_way p q _ hkd
            clear z30
            generalize ks.getD j 0 = kd at *
            generalize xm.getD j z42 = mt at *
            generalize keys.getD j z40 = key at *
            obtain ⟨kn, rfl⟩ : ∃ kn : Nat, kd = (kn : Int) := ⟨kd.toNat, by omega⟩
            have hkn5 : (kn : Int) < 5 := by omega
            have hkn0 : (0 : Int) ≤ (kn : Int) := by omega
            rw [Int.toNat_natCast] at hfn
            have HCALL := Aside0.mk (fun W => hway mt key W)
            have hbx := below_alloc (Below.refl wr.heap.size wr) (.cells (mCells mt) 42 (0,0))
            have HCL := Aside0.mk (And.intro (HI2.out.2.trans (hbx.mono HI2.out.2.size)) (heap_alloc_new wr (.cells (mCells mt) 42 (0,0))))
            obtain ⟨g9, hg9⟩ : ∃ g, g = wr.heap.size := ⟨_, rfl⟩
            rw [← hg9] at HCL
            obtain ⟨C, HC⟩ : ∃ C : World → Prop, Aside0 (∀ W, C W ↔ (Below wr.heap.size wr W ∧ W.heap[g9]? = some (.cells (mCells mt) 42 (0,0)))) := ⟨_, ⟨fun W => Iff.rfl⟩⟩
            have key_ : ∀ {W : World} {pp : Addr} {v : Value}, Below wr.heap.size wr W → wr.cell? pp = some v → W.cell? pp = some v := fun hb hc => (hb.cell (World.block_lt_of_cell? wr _ hc)).trans hc
            have HFA := Aside0.mk (show ∀ W, C W → _ ∧ _ ∧ _ ∧ _ ∧ _ ∧ _ ∧ _ ∧ _ ∧ _ ∧ _ ∧ _ ∧ _ ∧ _ ∧ _ from fun W hC => by
              obtain ⟨h1, h2⟩ := (HC.out W).1 hC
              have h3 := HI2.out.2.trans (h1.mono HI2.out.2.size)
              exact ⟨cellOf h2 0, cellOf h2 1, cellOf h2 2, cellOf h2 3, cellOf h2 4, cellOf h2 5, cellOf h2 6, cellOf ((h3.block bk (Array.getElem?_eq_some_iff.1 HV6.out.1).1).trans HV6.out.1) 0, cellOf ((h3.block bt (Array.getElem?_eq_some_iff.1 HV6.out.2.1).1).trans HV6.out.2.1) 0, key_ h1 z3, key_ h1 z0, key_ h1 z1, key_ h1 z2, (cellOf ((h3.block g5 (Array.getElem?_eq_some_iff.1 HV6.out.2.2.1).1).trans HV6.out.2.2.1) (kn * 2 + 1)).trans hfn⟩)
            have HNX := Aside0.mk (show ∀ W W', C W → Below W.heap.size W W' → C W' from fun W W' hC hb => by
              obtain ⟨h1, h2⟩ := (HC.out W).1 hC
              exact (HC.out W').2 ⟨h1.trans (hb.mono h1.size), (hb.block g9 (Array.getElem?_eq_some_iff.1 h2).1).trans h2⟩)
            have HOUT := Aside0.mk (show ∀ W, C W → Below V6.heap.size V6 W from fun W hC => HI2.out.2.trans (((HC.out W).1 hC).1.mono HI2.out.2.size))
            have HC0 := Aside0.mk ((HC.out _).2 ⟨hbx.trans (show Below wr.heap.size (wr.alloc (.cells (mCells mt) 42 (0,0))) (wr.alloc (.cells (mCells mt) 42 (0,0))).drew from (Below.refl _ _).drew), HCL.out.2⟩)
            obtain ⟨mv, mk_, ml⟩ := mt
            obtain ⟨v0, v1, v2⟩ := mv
            obtain ⟨b0, b1', b2⟩ := mk_
            obtain ⟨q0', q1', q2'⟩ := key
            simp only [mCells, mV, bV] at *
            subst hg9
            clear hfn hway HC HCL key_ z0 z1 z2 z3 hbx
            by_cases hw : v0 = q0'
            · skip
              subst hw
              have w1 : (v0 != v0) = false := by simp
              have HSTEP2 := Aside0.mk (fun (h : hitsB (kn : Int) ⟨⟨v0, v1, v2⟩, ⟨b0, b1', b2⟩, ml⟩ ⟨v0, q1', q2'⟩ = true) => HSTEP.out (by rw [h]; simp))
              have HFAIL2 := Aside0.mk (fun (h : hitsB (kn : Int) ⟨⟨v0, v1, v2⟩, ⟨b0, b1', b2⟩, ml⟩ ⟨v0, q1', q2'⟩ = false) => HFAIL.out (by rw [h]; simp))
              clear HSTEP HFAIL
              generalize hitsB (kn : Int) ⟨⟨v0, v1, v2⟩, ⟨b0, b1', b2⟩, ml⟩ ⟨v0, q1', q2'⟩ = r at *
              go_wp2_with fail
              refine region_class C (by kernel_rfl) (by kernel_rfl) HC0.out ?_
              repeat
                (first
                  | go_big_quiet_skip
                  | (go_big_quiet_want; first
                      | (go_big_quiet_op; go_big_quiet_on)
                      | (unfold Oper.quiet; apply Exists.intro; refine ⟨fun W hW => ?_, ?_⟩
                         · obtain ⟨m0, m1, m2, m3, m4, m5, m6, k0, t0, t1, u0, u1, u2, f1⟩ := HFA.out W hW
                           go_simp
                           first
                             | with_reducible rfl
                             | (refine Calls.mono (HCALL.out W) ?_; rintro e w7 ⟨rfl, hb7⟩; exact ⟨rfl, HNX.out _ _ hW hb7⟩)
                         go_simp
                         go_big_quiet_on)))
              refine wpQuiet_nil ?_
              intro W' hW'
              have HE := Aside0.mk (HOUT.out W' hW')
              clear hW' HFA HC0 HNX HOUT
              cases r with
              | true =>
                go_wp2
                go_roundw
                case rel => exact ⟨j + 1, by omega, by go_num, HSTEP2.out rfl, HE.out⟩
                case measure => (simp [intOf]; omega)
              | false =>
                have HNO := Aside0.mk (HFAIL2.out rfl)
                go_wp2
                go_roundw
                case rel => exact ⟨k + 1, by omega, by go_num, by rw [HNO.out]; exact HJ.out _ _ _ none HJX.out (grown_of_below HE.out) (fun r e => by cases e), HI.out.2.trans ((Kq.ofBelow HX.out.1 HBr.out.size).trans (Kq.ofBelow HE.out HGB.out.size))⟩
                case measure => (simp [intOf]; omega)
            · have w1 : (v0 != q0') = true := by simpa using hw
              have HNO := Aside0.mk (HFAIL.out (by
                have : (v0 == q0') = false := by simpa using hw
                rw [this]
                rfl))
              clear hw
              go_wp2_with fail
              refine region_class C (by kernel_rfl) (by kernel_rfl) HC0.out ?_
              repeat
                (first
                  | go_big_quiet_skip
                  | (go_big_quiet_want; first
                      | (go_big_quiet_op; go_big_quiet_on)
                      | (unfold Oper.quiet; apply Exists.intro; refine ⟨fun W hW => ?_, ?_⟩
                         · obtain ⟨m0, m1, m2, m3, m4, m5, m6, k0, t0, t1, u0, u1, u2, f1⟩ := HFA.out W hW
                           go_simp
                           first
                             | with_reducible rfl
                         go_simp
                         go_big_quiet_on)))
              refine wpQuiet_nil ?_
              intro W' hW'
              have HE := Aside0.mk (HOUT.out W' hW')
              clear hW' HFA HC0 HNX HOUT
              go_wp2
              go_roundw
              case rel => exact ⟨k + 1, by omega, by go_num, by rw [HNO.out]; exact HJ.out _ _ _ none HJX.out (grown_of_below HE.out) (fun r e => by cases e), HI.out.2.trans ((Kq.ofBelow HX.out.1 HBr.out.size).trans (Kq.ofBelow HE.out HGB.out.size))⟩
              case measure => (simp [intOf]; omega)
          · have hjn : j = xm.length := by omega
            have g4 : decide ((j : Int) < (xm.length : Int)) = false := decide_eq_false (by omega)
            have h7 := (HI2.out.2.block g7 (Array.getElem?_eq_some_iff.1 HV6.out.2.2.2.1).1).trans HV6.out.2.2.2.1
            have e0 := cellOf h7 0
            have e1 := cellOf h7 1
            have e2 := cellOf h7 2
            have e3 := cellOf h7 3
            have hhit : hitsE ks keys ⟨xm, xp, xs, xa⟩ = true := (by
              unfold hitsE
              rw [Bool.and_eq_true]
              refine ⟨by simp [HNE.out], ?_⟩
              rw [List.all_eq_true]
              intro t ht
              exact HI2.out.1 t (by rw [List.mem_range] at ht; rw [hjn, HNE.out]; exact ht))
            have hyes := HYES.out hhit
            have hpre := HPRE.out
            rw [hyes] at hpre
            have HP2 := Aside0.mk (And.intro hyes hpre)
            obtain ⟨fn, tmps, assign, body, hy, hR⟩ := HY.out (hitsTo ks keys l k) k wr hpre (HJ.out _ _ _ none HJX.out (grown_of_below HI2.out.2) (fun r e => by cases e))
            rw [HEC.out] at hy
            have HQ2 := Aside0.mk (HI.out.2.trans ((Kq.ofBelow HX.out.1 HBr.out.size).trans (Kq.ofBelow HI2.out.2 HGB.out.size)))
            clear h7 hyes hpre hjn hhit
            go_upto_region 10 with fail
            refine (wpIn_wide (n := 2)).1 ?_
            gi_wp2
            refine hR.mono ?_
            rintro e W3 ⟨rfl, hJ3, hk3⟩
            gi_wp2
            go_wp2
            go_roundw
            case rel => exact ⟨k + 1, by omega, by go_num, by rw [HP2.out.1]; exact hJ3, HQ2.out.trans hk3⟩
            case measure => (simp [intOf]; omega)
      · have b1 : ((xm.length : Int) != (keys.length : Int)) = true := by simp; omega
        have HNO := Aside0.mk (HNOT.out (by simp [hitsE, hne]))
        clear hne
        go_wp2
        go_roundw
        case rel => exact ⟨k + 1, by omega, by go_num, by rw [HNO.out]; exact HJX.out, HI.out.2.trans (Kq.ofBelow HX.out.1 HBr.out.size)⟩
        case measure => (simp [intOf]; omega)
    · have hkn : k = l.length := by omega
      have g3 : decide ((k : Int) < (l.length : Int)) = false := decide_eq_false (by omega)
      have HEND := Aside0.mk (show J (hitsTo ks keys l l.length) wr from hkn ▸ HI.out.1)
      clear hkn
      go_wp2
      rw [Exit.noGoto_normal]
      go_end0
      exact ⟨⟨_, rfl⟩, HEND.out⟩
end Go.Proofs.Ytdfmeclhpefmfaa.Own

/- Check: the walk. -/
set_option linter.unusedVariables false
set_option linter.unusedSimpArgs false
set_option maxRecDepth 100000
namespace Go.Proofs.Ytdfmeclhpefmfaa.Own
open Go.RowKit Go.Proofs.Ytdfmeclhpefmfaa.K YtdfmeclhpefmfaaW.PrintWords YtdfmeclhpefmfaaW.PrintLast YtdfmeclhpefmfaaW.PrintMore

set_option maxHeartbeats 6400000 in
theorem check_any {A : Option Addr} {c : Nat} {ks : List Int} {B : Option Addr} {d : Nat} {ws : List Int} (sz : Int) {A0 : Option Addr} {c0 : Nat} {A3 : Option Addr} {c3 : Nat} (e : S30) (w : World) (ht : TabAt w A c ks B d ws)
    (hm : Kd.C k42 w A0 e.f0.length e.f0) (hm1 : e.f0.length ≤ c0) (ha : Kd.C k40 w A3 e.f3.length e.f3) (ha1 : e.f3.length ≤ c3) :
    Calls Try.prog 20 #[.agg #[.slice A ks.length c, .slice B ws.length d, .int .i64 sz], .agg #[.slice A0 e.f0.length c0, .int .i64 e.f1, .string e.f2, .slice A3 e.f3.length c3]] w fun r w' => r = .returned (.int .i64 (checkP ks ws sz e)) ∧ Below w.heap.size w w' := by
  have hu25 := Try.underlying25
  have hu30 := Try.underlying30
  have hu42 := Try.underlying42
  have hu40 := Try.underlying40
  have hu77 := Try.underlying77
  have hu76 := Try.underlying76
  have h0 : CT [] w A c ks B d ws A0 e.f0 A3 e.f3 w := ⟨fun x hx => (by cases hx), ht, hm, ha, Below.refl _ _⟩
  have h2 := (h0.box (.cells #[.slice A ks.length c, .slice B ws.length d, .int .i64 sz] 25 (0,0))).box (.cells #[.slice A0 e.f0.length c0, .int .i64 e.f1, .string e.f2, .slice A3 e.f3.length c3] 30 (0,0))
  rw [show (w.alloc (.cells #[.slice A ks.length c, .slice B ws.length d, .int .i64 sz] 25 (0,0))).heap.size = w.heap.size + 1 by simp] at h2
  have H2 := Aside0.mk h2
  have HM := Aside0.mk (fun W => @may_any A c ks B d ws sz W)
  obtain ⟨ms, p1, s2, gs⟩ := e
  simp only at *
  obtain ⟨nk, hnk⟩ : ∃ n, n = ks.length := ⟨_, rfl⟩
  obtain ⟨nw, hnw⟩ : ∃ n, n = ws.length := ⟨_, rfl⟩
  obtain ⟨nm, hnm⟩ : ∃ n, n = ms.length := ⟨_, rfl⟩
  obtain ⟨ng, hng⟩ : ∃ n, n = gs.length := ⟨_, rfl⟩
  have hmk : nk ≤ 9223372036854775807 := by rw [hnk]; exact ht.hk.2.1
  have hmm : nm ≤ 9223372036854775807 := by rw [hnm]; exact hm.2.1
  clear h0 h2 ht hm ha
  show Calls _ _ _ _ (fun r w' => r = .returned (.int .i64 (if tmayB ks ws sz && (ms.length == ks.length && (keysB ks ws ms && (!(gs.any notOk) && prioB (weighsB ks) p1))) then 0 else 1)) ∧ _)
  have HG := Aside0.mk (fun W (hC : Kd.C k40 W A3 gs.length gs) => contB_any A3 c3 gs W hC ha1)
  have HWt := Aside0.mk (fun W => @weighs_any A c ks B d ws sz W)
  rw [← hnk, ← hnw, ← hnm, ← hng] at H2
  rw [← hnk, ← hnw] at HM HWt
  rw [← hng] at HG
  rw [← hnk, ← hnw, ← hnm, ← hng]
  generalize hr1 : tmayB ks ws sz = r1 at *
  generalize gs.any notOk = r4 at *
  generalize weighsB ks = r5 at *
  have HNG := Aside0.mk hng
  clear hng ha1 hm1
  have HN := Aside0.mk (And.intro hnk (And.intro hnw hnm))
  cases r1 with
  | false =>
    clear hnk hnw hnm
    go_enter Try.func20, Try.ntmps20
    go_wp2_with fail
    refine Calls.mono (HM.out _ H2.out.tab) ?_
    rintro e w3 ⟨rfl, hb⟩
    go_wp2
    go_ret
    exact ⟨rfl, (H2.out.next hb).below⟩
  | true =>
    have HTM := Aside0.mk hr1
    by_cases hne : nm = nk
    · subst hne
      have g2 : ((nm : Int) != (nm : Int)) = false := by simp
      have g1 : (nm == nm) = true := by simp
      rw [g1]
      clear g1
      obtain ⟨rv, hrv⟩ : ∃ rv : Int, rv = (if true && (true && (keysB ks ws ms && (!r4 && prioB r5 p1))) then 0 else 1) := ⟨_, rfl⟩
      rw [← hrv]
      have HRV := Aside0.mk hrv
      clear hrv
      have HKS := Aside0.mk kinds_any
      clear hnk hnw hnm
      go_enter Try.func20, Try.ntmps20
      go_wp2_with fail
      refine Calls.mono (HM.out _ H2.out.tab) ?_
      rintro e w3 ⟨rfl, hb⟩
      have H3 := Aside0.mk (H2.out.next hb)
      have d0 := cellOf H3.out.hold.at1 0
      have d1 := cellOf H3.out.hold.tail.at1 0
      clear hb
      go_wp2_with fail
      refine Calls.mono (HKS.out _) ?_
      rintro e w4 ⟨p, q, rfl, hp, hq, hb⟩
      have H4 := Aside0.mk (((((H3.out.next hb).more hp).more hq).box (.cells (kindsC p q) 77 (0,0))))
      have e0 := cellOf H4.out.hold.tail.tail.tail.at1 0
      have e1 := cellOf H4.out.hold.tail.tail.tail.tail.at1 0
      clear hp hq hb d0 d1
      obtain ⟨g5, hg5⟩ : ∃ g, g = w4.heap.size := ⟨_, rfl⟩
      obtain ⟨g2, hg2⟩ : ∃ g, g = w.heap.size + 1 := ⟨_, rfl⟩
      obtain ⟨g1, hg1⟩ : ∃ g, g = w.heap.size := ⟨_, rfl⟩
      have HKD := Aside0.mk (show ∀ j, j < nm → badK (ks.getD j 0) = false from fun j hj => by
        have h1 := HTM.out
        simp only [tmayB, Bool.and_eq_true, Bool.not_eq_true', decide_eq_true_eq, beq_iff_eq] at h1
        exact any_get _ 0 ks h1.2.2.2.2.1 j (by rw [← HN.out.1]; exact hj))
      have HLW := Aside0.mk (show nw = nm from by
        have h1 := HTM.out
        simp only [tmayB, Bool.and_eq_true, Bool.not_eq_true', decide_eq_true_eq, beq_iff_eq] at h1
        have := HN.out
        omega)
      simp only [kindsC] at e0 e1 ⊢
      go_wp2_with fail
      rw [← hg5, ← hg2, ← hg1] at H4
      clear e0 e1
      rw [← hg5, ← hg2, ← hg1]
      have HNK := HN
      clear hg5 hg2 hg1 H3 H2 hr1 HTM
      trace_state
      go_loopw [24] (fun i wr => ∃ k : Nat, k ≤ nm ∧ i = .int .i64 k ∧ Aside0 ((∀ j, j < k → keyB (ks.getD j 0) (ws.getD j 0) (ms.getD j z42) = true) ∧ CT [(g5, .cells (kindsC p q) 77 (0,0)), (q, .cells #[.func (.func 57) #[] #[]] 73 (0,0)), (p, .cells #[.func (.func 56) #[] #[]] 93 (0,0)), (g2, .cells #[.slice A0 nm c0, .int .i64 p1, .string s2, .slice A3 ng c3] 30 (0,0)), (g1, .cells #[.slice A nm c, .slice B nw d, .int .i64 sz] 25 (0,0))] w A c ks B d ws A0 ms A3 gs wr)) (fun i _ => nm - (intOf i).toNat)
      case atStart => exact ⟨0, by omega, rfl, fun j hj => by omega, H4.out⟩
      case round =>
        obtain ⟨k, hk, rfl, HI⟩ := hrel
        by_cases hlt : k < nm
        · skip
          have g3 : decide ((k : Int) < (nm : Int)) = true := decide_eq_true (by omega)
          have p0 : 0 ≤ (k : Int) := by omega
          have q0 : (k : Int) < (nm : Int) := by omega
          have q1 : (k : Int) < (nw : Int) := by rw [HLW.out]; omega
          obtain ⟨ad, rfl, x0, x1, x2, x3, x4, x5, x6⟩ := at_T42 HI.out.2.hm (k : Int) p0 (by rw [← HN.out.2.2]; exact q0)
          obtain ⟨ak, rfl, _⟩ := Kd.at_int HI.out.2.tab.hk (k : Int) p0 (by rw [← HN.out.1]; exact q0)
          obtain ⟨bk, rfl, _⟩ := Kd.at_int HI.out.2.tab.hw (k : Int) p0 (by rw [← HN.out.2.1, HLW.out]; exact q0)
          rw [Int.toNat_natCast] at x0 x1 x2 x3 x4 x5 x6
          simp only [rd_T42, Int.toNat_natCast] at x0 x1 x2 x3 x4 x5 x6
          have hkd := bad_some _ (HKD.out k hlt)
          have HNO0 := Aside0.mk (keysB_no ks ws ms k (by rw [← HN.out.2.2]; exact hlt))
          have HYES0 := Aside0.mk (show keyB (ks.getD k 0) (ws.getD k 0) (ms.getD k z42) = true → ∀ j, j < k + 1 → keyB (ks.getD j 0) (ws.getD j 0) (ms.getD j z42) = true from fun h j hj => by
            rcases Nat.lt_or_ge j k with hl | hl
            · exact HI.out.1 j hl
            · obtain rfl : j = k := by omega
              exact h)
          have HX := Aside0.mk (HI.out.2.box (.cells (mCells (ms.getD k z42)) 42 (0,0)))
          have HKF := Aside0.mk (fun W (h : TabAt W (some ak) c ks (some bk) d ws) => And.intro (Kd.at_int h.hk (k : Int) p0 (by rw [← HN.out.1]; exact q0)) (Kd.at_int h.hw (k : Int) p0 (by rw [← HN.out.2.1, HLW.out]; exact q0)))
          have HBAD := HKD
          clear HKD HLW
          obtain ⟨g7, hg7⟩ : ∃ g, g = wr.heap.size := ⟨_, rfl⟩
          rw [← hg7] at HX
          have HKF2 := Aside0.mk (show ∀ W, TabAt W (some ak) c ks (some bk) d ws → W.cell? (ak.add k) = some (.int .u8 (ks.getD k 0)) ∧ W.cell? (bk.add k) = some (.int .i64 (ws.getD k 0)) from fun W h => by
            obtain ⟨⟨a1, e1, c1⟩, ⟨a2, e2, c2⟩⟩ := HKF.out W h
            injection e1 with e1
            injection e2 with e2
            subst e1
            subst e2
            exact ⟨c1, c2⟩)
          clear HKF HI
          generalize ks.getD k 0 = kd at *
          generalize ws.getD k 0 = wd at *
          generalize ms.getD k z42 = m at *
          obtain ⟨C, HF⟩ : ∃ C : World → Prop, Aside0 (∀ W, C W ↔ CT [(g7, .cells (mCells m) 42 (0,0)), (g5, .cells (kindsC p q) 77 (0,0)), (q, .cells #[.func (.func 57) #[] #[]] 73 (0,0)), (p, .cells #[.func (.func 56) #[] #[]] 93 (0,0)), (g2, .cells #[.slice (some ad) nm c0, .int .i64 p1, .string s2, .slice A3 ng c3] 30 (0,0)), (g1, .cells #[.slice (some ak) nm c, .slice (some bk) nw d, .int .i64 sz] 25 (0,0))] w (some ak) c ks (some bk) d ws (some ad) ms A3 gs W) := ⟨_, ⟨fun W => Iff.rfl⟩⟩
          have HCK0 := Aside0.mk (Check_any m.f0)
          cases hok : okB m.f0 with
          | false =>
            have HNO := Aside0.mk (HNO0.out (by unfold keyB; rw [hok]; rfl))
            have HCK := HCK0
            rw [hok] at HCK
            have HFA := Aside0.mk (show ∀ W, CT [(g7, .cells (mCells m) 42 (0,0)), (g5, .cells (kindsC p q) 77 (0,0)), (q, .cells #[.func (.func 57) #[] #[]] 73 (0,0)), (p, .cells #[.func (.func 56) #[] #[]] 93 (0,0)), (g2, .cells #[.slice (some ad) nm c0, .int .i64 p1, .string s2, .slice A3 ng c3] 30 (0,0)), (g1, .cells #[.slice (some ak) nm c, .slice (some bk) nw d, .int .i64 sz] 25 (0,0))] w (some ak) c ks (some bk) d ws (some ad) ms A3 gs W → _ ∧ _ ∧ _ ∧ _ ∧ _ ∧ _ ∧ _ ∧ _ ∧ _ ∧ _ ∧ _ ∧ True from fun W h => ⟨cellOf h.hold.at1 0, cellOf h.hold.at1 1, cellOf h.hold.at1 2, cellOf h.hold.at1 3, cellOf h.hold.at1 4, cellOf h.hold.at1 5, cellOf h.hold.at1 6, cellOf h.hold.tail.tail.tail.tail.tail.at1 0, cellOf h.hold.tail.tail.tail.tail.tail.at1 1, (HKF2.out W h.tab).1, (HKF2.out W h.tab).2, trivial⟩)
            have HC0 := Aside0.mk ((HF.out _).2 (HX.out.next (pw_below_drewN (Below.refl _ _) 1)))
            clear hok HCK0 HNO0 HYES0 HKF2 HX hkd
            obtain ⟨⟨v0, v1, v2⟩, ⟨b0, b1, b2⟩, n⟩ := m
            simp only [bV, mCells] at *
            rw [hg7] at HF HFA
            clear hg7
            go_wp2_with fail
            refine region_class C (by kernel_rfl) (by kernel_rfl) HC0.out ?_
            repeat
              (first
                | go_big_quiet_skip
                | (go_big_quiet_want; first
                    | (go_big_quiet_op; go_big_quiet_on)
                    | (unfold Oper.quiet; apply Exists.intro; refine ⟨fun W hW => ?_, ?_⟩
                       · obtain ⟨m0, m1, m2, m3, m4, m5, m6, t0, t1, k1, u1, kk⟩ := HFA.out W ((HF.out W).1 hW)
                         go_simp
                         first
                           | with_reducible rfl
                           | (go_at_call 26; refine Calls.mono (HCK.out W) ?_; rintro e w7 ⟨rfl, hb7⟩; exact ⟨rfl, (HF.out _).2 (((HF.out W).1 hW).next hb7)⟩)
                       go_simp
                       go_big_quiet_on)))
            refine wpQuiet_nil ?_
            intro W' hW'
            have HE := Aside0.mk ((HF.out W').1 hW')
            clear hW' HF HC0 HCK HFA
            go_wp2
            go_ret
            exact ⟨by rw [HRV.out, HNO.out]; rfl, HE.out.below⟩
          | true =>
            by_cases hw : m.f0.f0 = wd
            · have hwb : (m.f0.f0 == wd) = true := by simpa using hw
              obtain ⟨r8, hr8⟩ : ∃ r, r = mayB kd wd m := ⟨_, rfl⟩
              have HNO := Aside0.mk (show r8 = false → keysB ks ws ms = false from fun h => HNO0.out (by unfold keyB; rw [hok, hwb, ← hr8, h]; rfl))
              have HYES := Aside0.mk (show r8 = true → _ from fun h => HYES0.out (by unfold keyB; rw [hok, hwb, ← hr8, h]; rfl))
              rcases hkd with rfl | rfl | rfl | rfl
              · have HCK := HCK0
                rw [hok] at HCK
                have HMY := Aside0.mk (fun W (h : CT [(g7, .cells (mCells m) 42 (0,0)), (g5, .cells (kindsC p q) 77 (0,0)), (q, .cells #[.func (.func 57) #[] #[]] 73 (0,0)), (p, .cells #[.func (.func 56) #[] #[]] 93 (0,0)), (g2, .cells #[.slice (some ad) nm c0, .int .i64 p1, .string s2, .slice A3 ng c3] 30 (0,0)), (g1, .cells #[.slice (some ak) nm c, .slice (some bk) nw d, .int .i64 sz] 25 (0,0))] w (some ak) c ks (some bk) d ws (some ad) ms A3 gs W) => may1_any wd m p W h.hold.tail.tail.tail.at1)
                rw [← hr8] at HMY
                have HFA := Aside0.mk (show ∀ W, CT [(g7, .cells (mCells m) 42 (0,0)), (g5, .cells (kindsC p q) 77 (0,0)), (q, .cells #[.func (.func 57) #[] #[]] 73 (0,0)), (p, .cells #[.func (.func 56) #[] #[]] 93 (0,0)), (g2, .cells #[.slice (some ad) nm c0, .int .i64 p1, .string s2, .slice A3 ng c3] 30 (0,0)), (g1, .cells #[.slice (some ak) nm c, .slice (some bk) nw d, .int .i64 sz] 25 (0,0))] w (some ak) c ks (some bk) d ws (some ad) ms A3 gs W → _ ∧ _ ∧ _ ∧ _ ∧ _ ∧ _ ∧ _ ∧ _ ∧ _ ∧ _ ∧ _ ∧ _ from fun W h => ⟨cellOf h.hold.at1 0, cellOf h.hold.at1 1, cellOf h.hold.at1 2, cellOf h.hold.at1 3, cellOf h.hold.at1 4, cellOf h.hold.at1 5, cellOf h.hold.at1 6, cellOf h.hold.tail.tail.tail.tail.tail.at1 0, cellOf h.hold.tail.tail.tail.tail.tail.at1 1, (HKF2.out W h.tab).1, (HKF2.out W h.tab).2, cellOf h.hold.tail.at1 2⟩)
                have HC0 := Aside0.mk ((HF.out _).2 (HX.out.next (pw_below_drewN (Below.refl _ _) 1)))
                clear hok HCK0 HNO0 HYES0 HKF2 HX hr8 hwb
                obtain ⟨⟨v0, v1, v2⟩, ⟨b0, b1, b2⟩, n⟩ := m
                simp only at hw
                subst hw
                simp only [bV, mV, mCells, kindsC] at *
                rw [hg7] at HF HFA HMY
                clear hg7
                go_wp2_with fail
                refine region_class C (by kernel_rfl) (by kernel_rfl) HC0.out ?_
                repeat
                  (first
                    | go_big_quiet_skip
                    | (go_big_quiet_want; first
                        | (go_big_quiet_op; go_big_quiet_on)
                        | (unfold Oper.quiet; apply Exists.intro; refine ⟨fun W hW => ?_, ?_⟩
                           · obtain ⟨m0, m1, m2, m3, m4, m5, m6, t0, t1, k1, u1, kk⟩ := HFA.out W ((HF.out W).1 hW)
                             go_simp
                             first
                               | with_reducible rfl
                               | (go_at_call 26; refine Calls.mono (HCK.out W) ?_; rintro e w7 ⟨rfl, hb7⟩; exact ⟨rfl, (HF.out _).2 (((HF.out W).1 hW).next hb7)⟩)
                               | (go_at_call 58; refine Calls.mono (HMY.out W ((HF.out W).1 hW)) ?_; rintro e w7 ⟨rfl, hb7⟩; exact ⟨rfl, (HF.out _).2 (((HF.out W).1 hW).next hb7)⟩)
                           go_simp
                           go_big_quiet_on)))
                refine wpQuiet_nil ?_
                intro W' hW'
                have HE := Aside0.mk ((HF.out W').1 hW')
                clear hW' HF HC0 HCK HFA
                clear HMY
                cases r8 with
                | false =>
                  go_wp2
                  go_ret
                  exact ⟨by rw [HRV.out, HNO.out (by simp)]; rfl, HE.out.below⟩
                | true =>
                  go_wp2
                  go_roundw
                  case rel => exact ⟨k + 1, by omega, by go_num, HYES.out (by simp), HE.out.less⟩
                  case measure => (simp [intOf]; omega)
              · have HCK := HCK0
                rw [hok] at HCK
                have HMY := Aside0.mk (fun W (h : CT [(g7, .cells (mCells m) 42 (0,0)), (g5, .cells (kindsC p q) 77 (0,0)), (q, .cells #[.func (.func 57) #[] #[]] 73 (0,0)), (p, .cells #[.func (.func 56) #[] #[]] 93 (0,0)), (g2, .cells #[.slice (some ad) nm c0, .int .i64 p1, .string s2, .slice A3 ng c3] 30 (0,0)), (g1, .cells #[.slice (some ak) nm c, .slice (some bk) nw d, .int .i64 sz] 25 (0,0))] w (some ak) c ks (some bk) d ws (some ad) ms A3 gs W) => may2_any wd m p W h.hold.tail.tail.tail.at1)
                rw [← hr8] at HMY
                have HFA := Aside0.mk (show ∀ W, CT [(g7, .cells (mCells m) 42 (0,0)), (g5, .cells (kindsC p q) 77 (0,0)), (q, .cells #[.func (.func 57) #[] #[]] 73 (0,0)), (p, .cells #[.func (.func 56) #[] #[]] 93 (0,0)), (g2, .cells #[.slice (some ad) nm c0, .int .i64 p1, .string s2, .slice A3 ng c3] 30 (0,0)), (g1, .cells #[.slice (some ak) nm c, .slice (some bk) nw d, .int .i64 sz] 25 (0,0))] w (some ak) c ks (some bk) d ws (some ad) ms A3 gs W → _ ∧ _ ∧ _ ∧ _ ∧ _ ∧ _ ∧ _ ∧ _ ∧ _ ∧ _ ∧ _ ∧ _ from fun W h => ⟨cellOf h.hold.at1 0, cellOf h.hold.at1 1, cellOf h.hold.at1 2, cellOf h.hold.at1 3, cellOf h.hold.at1 4, cellOf h.hold.at1 5, cellOf h.hold.at1 6, cellOf h.hold.tail.tail.tail.tail.tail.at1 0, cellOf h.hold.tail.tail.tail.tail.tail.at1 1, (HKF2.out W h.tab).1, (HKF2.out W h.tab).2, cellOf h.hold.tail.at1 4⟩)
                have HC0 := Aside0.mk ((HF.out _).2 (HX.out.next (pw_below_drewN (Below.refl _ _) 1)))
                clear hok HCK0 HNO0 HYES0 HKF2 HX hr8 hwb
                obtain ⟨⟨v0, v1, v2⟩, ⟨b0, b1, b2⟩, n⟩ := m
                simp only at hw
                subst hw
                simp only [bV, mV, mCells, kindsC] at *
                rw [hg7] at HF HFA HMY
                clear hg7
                go_wp2_with fail
                refine region_class C (by kernel_rfl) (by kernel_rfl) HC0.out ?_
                repeat
                  (first
                    | go_big_quiet_skip
                    | (go_big_quiet_want; first
                        | (go_big_quiet_op; go_big_quiet_on)
                        | (unfold Oper.quiet; apply Exists.intro; refine ⟨fun W hW => ?_, ?_⟩
                           · obtain ⟨m0, m1, m2, m3, m4, m5, m6, t0, t1, k1, u1, kk⟩ := HFA.out W ((HF.out W).1 hW)
                             go_simp
                             first
                               | with_reducible rfl
                               | (go_at_call 26; refine Calls.mono (HCK.out W) ?_; rintro e w7 ⟨rfl, hb7⟩; exact ⟨rfl, (HF.out _).2 (((HF.out W).1 hW).next hb7)⟩)
                               | (go_at_call 60; refine Calls.mono (HMY.out W ((HF.out W).1 hW)) ?_; rintro e w7 ⟨rfl, hb7⟩; exact ⟨rfl, (HF.out _).2 (((HF.out W).1 hW).next hb7)⟩)
                           go_simp
                           go_big_quiet_on)))
                refine wpQuiet_nil ?_
                intro W' hW'
                have HE := Aside0.mk ((HF.out W').1 hW')
                clear hW' HF HC0 HCK HFA
                clear HMY
                cases r8 with
                | false =>
                  go_wp2
                  go_ret
                  exact ⟨by rw [HRV.out, HNO.out (by simp)]; rfl, HE.out.below⟩
                | true =>
                  go_wp2
                  go_roundw
                  case rel => exact ⟨k + 1, by omega, by go_num, HYES.out (by simp), HE.out.less⟩
                  case measure => (simp [intOf]; omega)
              · have HCK := HCK0
                rw [hok] at HCK
                have HMY := Aside0.mk (fun W (h : CT [(g7, .cells (mCells m) 42 (0,0)), (g5, .cells (kindsC p q) 77 (0,0)), (q, .cells #[.func (.func 57) #[] #[]] 73 (0,0)), (p, .cells #[.func (.func 56) #[] #[]] 93 (0,0)), (g2, .cells #[.slice (some ad) nm c0, .int .i64 p1, .string s2, .slice A3 ng c3] 30 (0,0)), (g1, .cells #[.slice (some ak) nm c, .slice (some bk) nw d, .int .i64 sz] 25 (0,0))] w (some ak) c ks (some bk) d ws (some ad) ms A3 gs W) => may3_any wd m q W h.hold.tail.tail.at1)
                rw [← hr8] at HMY
                have HFA := Aside0.mk (show ∀ W, CT [(g7, .cells (mCells m) 42 (0,0)), (g5, .cells (kindsC p q) 77 (0,0)), (q, .cells #[.func (.func 57) #[] #[]] 73 (0,0)), (p, .cells #[.func (.func 56) #[] #[]] 93 (0,0)), (g2, .cells #[.slice (some ad) nm c0, .int .i64 p1, .string s2, .slice A3 ng c3] 30 (0,0)), (g1, .cells #[.slice (some ak) nm c, .slice (some bk) nw d, .int .i64 sz] 25 (0,0))] w (some ak) c ks (some bk) d ws (some ad) ms A3 gs W → _ ∧ _ ∧ _ ∧ _ ∧ _ ∧ _ ∧ _ ∧ _ ∧ _ ∧ _ ∧ _ ∧ _ from fun W h => ⟨cellOf h.hold.at1 0, cellOf h.hold.at1 1, cellOf h.hold.at1 2, cellOf h.hold.at1 3, cellOf h.hold.at1 4, cellOf h.hold.at1 5, cellOf h.hold.at1 6, cellOf h.hold.tail.tail.tail.tail.tail.at1 0, cellOf h.hold.tail.tail.tail.tail.tail.at1 1, (HKF2.out W h.tab).1, (HKF2.out W h.tab).2, cellOf h.hold.tail.at1 6⟩)
                have HC0 := Aside0.mk ((HF.out _).2 (HX.out.next (pw_below_drewN (Below.refl _ _) 1)))
                clear hok HCK0 HNO0 HYES0 HKF2 HX hr8 hwb
                obtain ⟨⟨v0, v1, v2⟩, ⟨b0, b1, b2⟩, n⟩ := m
                simp only at hw
                subst hw
                simp only [bV, mV, mCells, kindsC] at *
                rw [hg7] at HF HFA HMY
                clear hg7
                go_wp2_with fail
                refine region_class C (by kernel_rfl) (by kernel_rfl) HC0.out ?_
                repeat
                  (first
                    | go_big_quiet_skip
                    | (go_big_quiet_want; first
                        | (go_big_quiet_op; go_big_quiet_on)
                        | (unfold Oper.quiet; apply Exists.intro; refine ⟨fun W hW => ?_, ?_⟩
                           · obtain ⟨m0, m1, m2, m3, m4, m5, m6, t0, t1, k1, u1, kk⟩ := HFA.out W ((HF.out W).1 hW)
                             go_simp
                             first
                               | with_reducible rfl
                               | (go_at_call 26; refine Calls.mono (HCK.out W) ?_; rintro e w7 ⟨rfl, hb7⟩; exact ⟨rfl, (HF.out _).2 (((HF.out W).1 hW).next hb7)⟩)
                               | (go_at_call 64; refine Calls.mono (HMY.out W ((HF.out W).1 hW)) ?_; rintro e w7 ⟨rfl, hb7⟩; exact ⟨rfl, (HF.out _).2 (((HF.out W).1 hW).next hb7)⟩)
                           go_simp
                           go_big_quiet_on)))
                refine wpQuiet_nil ?_
                intro W' hW'
                have HE := Aside0.mk ((HF.out W').1 hW')
                clear hW' HF HC0 HCK HFA
                clear HMY
                cases r8 with
                | false =>
                  go_wp2
                  go_ret
                  exact ⟨by rw [HRV.out, HNO.out (by simp)]; rfl, HE.out.below⟩
                | true =>
                  go_wp2
                  go_roundw
                  case rel => exact ⟨k + 1, by omega, by go_num, HYES.out (by simp), HE.out.less⟩
                  case measure => (simp [intOf]; omega)
              · have HCK := HCK0
                rw [hok] at HCK
                have HMY := Aside0.mk (fun W (h : CT [(g7, .cells (mCells m) 42 (0,0)), (g5, .cells (kindsC p q) 77 (0,0)), (q, .cells #[.func (.func 57) #[] #[]] 73 (0,0)), (p, .cells #[.func (.func 56) #[] #[]] 93 (0,0)), (g2, .cells #[.slice (some ad) nm c0, .int .i64 p1, .string s2, .slice A3 ng c3] 30 (0,0)), (g1, .cells #[.slice (some ak) nm c, .slice (some bk) nw d, .int .i64 sz] 25 (0,0))] w (some ak) c ks (some bk) d ws (some ad) ms A3 gs W) => may4_any wd m q W h.hold.tail.tail.at1)
                rw [← hr8] at HMY
                have HFA := Aside0.mk (show ∀ W, CT [(g7, .cells (mCells m) 42 (0,0)), (g5, .cells (kindsC p q) 77 (0,0)), (q, .cells #[.func (.func 57) #[] #[]] 73 (0,0)), (p, .cells #[.func (.func 56) #[] #[]] 93 (0,0)), (g2, .cells #[.slice (some ad) nm c0, .int .i64 p1, .string s2, .slice A3 ng c3] 30 (0,0)), (g1, .cells #[.slice (some ak) nm c, .slice (some bk) nw d, .int .i64 sz] 25 (0,0))] w (some ak) c ks (some bk) d ws (some ad) ms A3 gs W → _ ∧ _ ∧ _ ∧ _ ∧ _ ∧ _ ∧ _ ∧ _ ∧ _ ∧ _ ∧ _ ∧ _ from fun W h => ⟨cellOf h.hold.at1 0, cellOf h.hold.at1 1, cellOf h.hold.at1 2, cellOf h.hold.at1 3, cellOf h.hold.at1 4, cellOf h.hold.at1 5, cellOf h.hold.at1 6, cellOf h.hold.tail.tail.tail.tail.tail.at1 0, cellOf h.hold.tail.tail.tail.tail.tail.at1 1, (HKF2.out W h.tab).1, (HKF2.out W h.tab).2, cellOf h.hold.tail.at1 8⟩)
                have HC0 := Aside0.mk ((HF.out _).2 (HX.out.next (pw_below_drewN (Below.refl _ _) 1)))
                clear hok HCK0 HNO0 HYES0 HKF2 HX hr8 hwb
                obtain ⟨⟨v0, v1, v2⟩, ⟨b0, b1, b2⟩, n⟩ := m
                simp only at hw
                subst hw
                simp only [bV, mV, mCells, kindsC] at *
                rw [hg7] at HF HFA HMY
                clear hg7
                go_wp2_with fail
                refine region_class C (by kernel_rfl) (by kernel_rfl) HC0.out ?_
                repeat
                  (first
                    | go_big_quiet_skip
                    | (go_big_quiet_want; first
                        | (go_big_quiet_op; go_big_quiet_on)
                        | (unfold Oper.quiet; apply Exists.intro; refine ⟨fun W hW => ?_, ?_⟩
                           · obtain ⟨m0, m1, m2, m3, m4, m5, m6, t0, t1, k1, u1, kk⟩ := HFA.out W ((HF.out W).1 hW)
                             go_simp
                             first
                               | with_reducible rfl
                               | (go_at_call 26; refine Calls.mono (HCK.out W) ?_; rintro e w7 ⟨rfl, hb7⟩; exact ⟨rfl, (HF.out _).2 (((HF.out W).1 hW).next hb7)⟩)
                               | (go_at_call 66; refine Calls.mono (HMY.out W ((HF.out W).1 hW)) ?_; rintro e w7 ⟨rfl, hb7⟩; exact ⟨rfl, (HF.out _).2 (((HF.out W).1 hW).next hb7)⟩)
                           go_simp
                           go_big_quiet_on)))
                refine wpQuiet_nil ?_
                intro W' hW'
                have HE := Aside0.mk ((HF.out W').1 hW')
                clear hW' HF HC0 HCK HFA
                clear HMY
                cases r8 with
                | false =>
                  go_wp2
                  go_ret
                  exact ⟨by rw [HRV.out, HNO.out (by simp)]; rfl, HE.out.below⟩
                | true =>
                  go_wp2
                  go_roundw
                  case rel => exact ⟨k + 1, by omega, by go_num, HYES.out (by simp), HE.out.less⟩
                  case measure => (simp [intOf]; omega)
            · have hwb : (m.f0.f0 == wd) = false := by simpa using hw
              have hwn : (m.f0.f0 != wd) = true := by simpa using hw
              have HNO := Aside0.mk (HNO0.out (by unfold keyB; rw [hok, hwb]; rfl))
              have HCK := HCK0
              rw [hok] at HCK
              have HFA := Aside0.mk (show ∀ W, CT [(g7, .cells (mCells m) 42 (0,0)), (g5, .cells (kindsC p q) 77 (0,0)), (q, .cells #[.func (.func 57) #[] #[]] 73 (0,0)), (p, .cells #[.func (.func 56) #[] #[]] 93 (0,0)), (g2, .cells #[.slice (some ad) nm c0, .int .i64 p1, .string s2, .slice A3 ng c3] 30 (0,0)), (g1, .cells #[.slice (some ak) nm c, .slice (some bk) nw d, .int .i64 sz] 25 (0,0))] w (some ak) c ks (some bk) d ws (some ad) ms A3 gs W → _ ∧ _ ∧ _ ∧ _ ∧ _ ∧ _ ∧ _ ∧ _ ∧ _ ∧ _ ∧ _ ∧ True from fun W h => ⟨cellOf h.hold.at1 0, cellOf h.hold.at1 1, cellOf h.hold.at1 2, cellOf h.hold.at1 3, cellOf h.hold.at1 4, cellOf h.hold.at1 5, cellOf h.hold.at1 6, cellOf h.hold.tail.tail.tail.tail.tail.at1 0, cellOf h.hold.tail.tail.tail.tail.tail.at1 1, (HKF2.out W h.tab).1, (HKF2.out W h.tab).2, trivial⟩)
              have HC0 := Aside0.mk ((HF.out _).2 (HX.out.next (pw_below_drewN (Below.refl _ _) 1)))
              clear hok HCK0 HNO0 HYES0 HKF2 HX hkd hwb hw
              obtain ⟨⟨v0, v1, v2⟩, ⟨b0, b1, b2⟩, n⟩ := m
              simp only [bV, mCells] at *
              rw [hg7] at HF HFA
              clear hg7
              go_wp2_with fail
              refine region_class C (by kernel_rfl) (by kernel_rfl) HC0.out ?_
              repeat
                (first
                  | go_big_quiet_skip
                  | (go_big_quiet_want; first
                      | (go_big_quiet_op; go_big_quiet_on)
                      | (unfold Oper.quiet; apply Exists.intro; refine ⟨fun W hW => ?_, ?_⟩
                         · obtain ⟨m0, m1, m2, m3, m4, m5, m6, t0, t1, k1, u1, kk⟩ := HFA.out W ((HF.out W).1 hW)
                           go_simp
                           first
                             | with_reducible rfl
                             | (go_at_call 26; refine Calls.mono (HCK.out W) ?_; rintro e w7 ⟨rfl, hb7⟩; exact ⟨rfl, (HF.out _).2 (((HF.out W).1 hW).next hb7)⟩)
                         go_simp
                         go_big_quiet_on)))
              refine wpQuiet_nil ?_
              intro W' hW'
              have HE := Aside0.mk ((HF.out W').1 hW')
              clear hW' HF HC0 HCK HFA
              go_wp2
              go_ret
              exact ⟨by rw [HRV.out, HNO.out]; rfl, HE.out.below⟩
        · skip
          obtain rfl : k = nm := by omega
          have g3 : decide ((k : Int) < (k : Int)) = false := decide_eq_false (by omega)
          have HALL := Aside0.mk ((keysB_iff ks ws ms).2 (fun j hj => HI.out.1 j (by rw [HN.out.2.2]; exact hj)))
          have HC := Aside0.mk HI.out.2
          have f3 := cellOf HC.out.hold.tail.tail.tail.at1 3
          clear HI HKD HLW
          have HRV2 := HRV
          rw [HALL.out] at HRV2
          cases r4 with
          | true =>
            go_wp2_with fail
            refine Calls.mono (HG.out _ (by rw [HNG.out]; exact HC.out.ha)) ?_
            rintro e w5 ⟨rfl, hb⟩
            have H5 := Aside0.mk (HC.out.next hb)
            clear hb
            go_wp2
            go_ret
            exact ⟨by rw [HRV2.out]; rfl, H5.out.below⟩
          | false =>
            go_wp2_with fail
            refine Calls.mono (HG.out _ (by rw [HNG.out]; exact HC.out.ha)) ?_
            rintro e w5 ⟨rfl, hb⟩
            have H5 := Aside0.mk (HC.out.next hb)
            clear hb f3
            have t0 := cellOf H5.out.hold.tail.tail.tail.tail.at1 0
            have t1 := cellOf H5.out.hold.tail.tail.tail.tail.at1 1
            have t2 := cellOf H5.out.hold.tail.tail.tail.tail.at1 2
            go_wp2_with fail
            refine Calls.mono (HWt.out _ H5.out.tab) ?_
            rintro e w6 ⟨rfl, hb⟩
            have H6 := Aside0.mk (H5.out.next hb)
            clear hb t0 t1 t2
            have f1 := cellOf H6.out.hold.tail.tail.tail.at1 1
            have t0 := cellOf H6.out.hold.tail.tail.tail.tail.at1 0
            have t1 := cellOf H6.out.hold.tail.tail.tail.tail.at1 1
            have t2 := cellOf H6.out.hold.tail.tail.tail.tail.at1 2
            cases r5 with
            | true =>
              by_cases c1 : 1 ≤ p1
              · have b1 : decide (1 ≤ p1) = true := decide_eq_true c1
                by_cases c2 : p1 ≤ 2147483647
                · have b2 : decide (p1 ≤ 2147483647) = true := decide_eq_true c2
                  go_wp2
                  go_ret
                  exact ⟨by rw [HRV2.out]; simp [prioB, c1, c2], H6.out.below⟩
                · have b2 : decide (p1 ≤ 2147483647) = false := decide_eq_false c2
                  go_wp2_with fail
                  refine Calls.mono (HWt.out _ H6.out.tab) ?_
                  rintro e w7 ⟨rfl, hb⟩
                  have H7 := Aside0.mk (H6.out.next hb)
                  clear hb f1 t0 t1 t2
                  have f1 := cellOf H7.out.hold.tail.tail.tail.at1 1
                  go_wp2
                  go_ret
                  exact ⟨by rw [HRV2.out]; simp [prioB, c2], H7.out.below⟩
              · have b1 : decide (1 ≤ p1) = false := decide_eq_false c1
                go_wp2_with fail
                refine Calls.mono (HWt.out _ H6.out.tab) ?_
                rintro e w7 ⟨rfl, hb⟩
                have H7 := Aside0.mk (H6.out.next hb)
                clear hb f1 t0 t1 t2
                have f1 := cellOf H7.out.hold.tail.tail.tail.at1 1
                go_wp2
                go_ret
                exact ⟨by rw [HRV2.out]; simp [prioB]; omega, H7.out.below⟩
            | false =>
              go_wp2_with fail
              refine Calls.mono (HWt.out _ H6.out.tab) ?_
              rintro e w7 ⟨rfl, hb⟩
              have H7 := Aside0.mk (H6.out.next hb)
              clear hb f1 t0 t1 t2
              have f1 := cellOf H7.out.hold.tail.tail.tail.at1 1
              by_cases c1 : p1 = 0
              · have b1 : (p1 == 0) = true := by simpa using c1
                go_wp2
                go_ret
                exact ⟨by rw [HRV2.out]; simp [prioB, b1], H7.out.below⟩
              · have b1 : (p1 == 0) = false := by simpa using c1
                go_wp2
                go_ret
                exact ⟨by rw [HRV2.out]; simp [prioB, b1], H7.out.below⟩
    · have g2 : ((nm : Int) != (nk : Int)) = true := by simp; omega
      have g1 : (nm == nk) = false := by simp; omega
      rw [g1]
      clear hnk hnw hnm g1
      go_enter Try.func20, Try.ntmps20
      go_wp2_with fail
      refine Calls.mono (HM.out _ H2.out.tab) ?_
      rintro e w3 ⟨rfl, hb⟩
      have H3 := Aside0.mk (H2.out.next hb)
      have d0 := cellOf H3.out.hold.at1 0
      have d1 := cellOf H3.out.hold.tail.at1 0
      go_wp2
      go_ret
      exact ⟨rfl, H3.out.below⟩
end Go.Proofs.Ytdfmeclhpefmfaa.Own

/- Insert. -/
set_option linter.unusedVariables false
set_option linter.unusedSimpArgs false
set_option maxRecDepth 100000
namespace Go.Proofs.Ytdfmeclhpefmfaa.Own
open Go.RowKit Go.Proofs.Ytdfmeclhpefmfaa.K YtdfmeclhpefmfaaW.PrintWords YtdfmeclhpefmfaaW.PrintLast YtdfmeclhpefmfaaW.PrintMore

/-- A block is as told. -/
def BoxIs (g : Nat) (o : Obj) (U : World) : Prop := U.heap[g]? = some o
/-- What Insert tells. -/
def insP (ks ws : List Int) (sz : Int) (l : List S30) (e : S30) : List S30 × Int :=
  if checkP ks ws sz e = 0 then (if placeE l e ≥ 0 then ([], 12) else if (l.length : Int) ≥ sz then ([], 10) else (l ++ [e], 0)) else ([], checkP ks ws sz e)
/-- Sizes that append takes. -/
def small (l : List S30) : Prop := l.length ≤ 100000 ∧ ∀ x ∈ l, x.f0.length ≤ 1000000 ∧ x.f3.length ≤ 1000000
/-- What stays while a table's entries are changed. -/
structure IT (bs : List (Nat × Obj)) (w : World) (A : Option Addr) (c : Nat) (ks : List Int) (B : Option Addr) (d : Nat) (ws : List Int) (A0 : Option Addr) (A3 : Option Addr) (e : S30) (A1 : Option Addr) (l : List S30) (W : World) : Prop where
  ct : CT bs w A c ks B d ws A0 e.f0 A3 e.f3 W
  hl : Kd.C k30 W A1 l.length l
section
variable {bs : List (Nat × Obj)} {w : World} {A : Option Addr} {c : Nat} {ks : List Int} {B : Option Addr} {d : Nat} {ws : List Int} {A0 A3 : Option Addr} {e : S30} {A1 : Option Addr} {l : List S30} {W W' : World}
theorem IT.next (h : IT bs w A c ks B d ws A0 A3 e A1 l W) (hb : Below W.heap.size W W') : IT bs w A c ks B d ws A0 A3 e A1 l W' := ⟨h.ct.next hb, Kd.C_below h.hl hb⟩
theorem IT.box (h : IT bs w A c ks B d ws A0 A3 e A1 l W) (o : Obj) : IT ((W.heap.size, o) :: bs) w A c ks B d ws A0 A3 e A1 l (W.alloc o) := ⟨h.ct.box o, Kd.C_below h.hl (below_alloc (Below.refl _ _) o)⟩
end
/-- What Insert, Modify and Delete answer, as memory. -/
def Ans (w w' : World) (v : Value) (l : List S30) : Prop := ∃ us, CRow w' w.heap.size 30 4 v l.length (entsL l us) ∧ Ents w' w.heap.size l us
theorem Ans.nil (w w' : World) : Ans w w' (.slice none 0 0) [] := ⟨[], CRow.nil, Ents.nil _ _⟩
theorem checkP_cases (ks ws : List Int) (sz : Int) (e : S30) : checkP ks ws sz e = 0 ∨ checkP ks ws sz e = 1 := by
  unfold checkP
  split
  · exact .inl rfl
  · exact .inr rfl

set_option maxHeartbeats 1600000 in
theorem insert_any {A : Option Addr} {c : Nat} {ks : List Int} {B : Option Addr} {d : Nat} {ws : List Int} (sz : Int) {A1 : Option Addr} {c1 : Nat} (l : List S30) {A0 : Option Addr} {c0 : Nat} {A3 : Option Addr} {c3 : Nat} (e : S30) (w : World) (ht : TabAt w A c ks B d ws)
    (hm : Kd.C k42 w A0 e.f0.length e.f0) (hm1 : e.f0.length ≤ c0) (ha : Kd.C k40 w A3 e.f3.length e.f3) (ha1 : e.f3.length ≤ c3) (hl : Kd.C k30 w A1 l.length l) (hl1 : l.length ≤ c1) (hs : small l) (hse : e.f0.length ≤ 1000000 ∧ e.f3.length ≤ 1000000) :
    Calls Try.prog 10 #[.agg #[.slice A ks.length c, .slice B ws.length d, .int .i64 sz], .slice A1 l.length c1, .agg #[.slice A0 e.f0.length c0, .int .i64 e.f1, .string e.f2, .slice A3 e.f3.length c3]] w fun r w' => ∃ v, r = .returned (.tuple #[v, .int .i64 (insP ks ws sz l e).2]) ∧ Ans w w' v (insP ks ws sz l e).1 ∧ Below w.heap.size w w' := by
  have hu25 := Try.underlying25
  have hu30 := Try.underlying30
  have h0 : IT [] w A c ks B d ws A0 A3 e A1 l w := ⟨⟨fun x hx => (by cases hx), ht, hm, ha, Below.refl _ _⟩, hl⟩
  have h2 := (h0.box (.cells #[.slice A ks.length c, .slice B ws.length d, .int .i64 sz] 25 (0,0))).box (.cells #[.slice A0 e.f0.length c0, .int .i64 e.f1, .string e.f2, .slice A3 e.f3.length c3] 30 (0,0))
  rw [show (w.alloc (.cells #[.slice A ks.length c, .slice B ws.length d, .int .i64 sz] 25 (0,0))).heap.size = w.heap.size + 1 by simp] at h2
  have H2 := Aside0.mk h2
  have HCK := Aside0.mk (fun W (hT : TabAt W A c ks B d ws) (hM : Kd.C k42 W A0 e.f0.length e.f0) (hA : Kd.C k40 W A3 e.f3.length e.f3) => check_any (c0 := c0) (c3 := c3) sz e W hT hM hm1 hA ha1)
  have HFD := Aside0.mk (fun W (hM : Kd.C k42 W A0 e.f0.length e.f0) (hL : Kd.C k30 W A1 l.length l) => find_any e A0 A3 c0 c3 A1 c1 l W hM hm1 hL hl1)
  have HTS := Aside0.mk (fun W (hL : Kd.C k30 W A1 l.length l) => twins_any l (c := c1) W hL hs.1 hs.2)
  have HTW := Aside0.mk (fun W (hM : Kd.C k42 W A0 e.f0.length e.f0) (hA : Kd.C k40 W A3 e.f3.length e.f3) => twin_any e (c0 := c0) (c3 := c3) W hM hA hse.1 hse.2)
  have hll := hs.1
  have HCP := Aside0.mk (checkP_cases ks ws sz e)
  have HIN : Aside0 (insP ks ws sz l e = _) := ⟨rfl⟩
  unfold insP at HIN ⊢
  rcases checkP_cases ks ws sz e with hcp | hcp
  · rw [hcp] at HCK
    simp only [hcp, if_true]
    have HLEN := Aside0.mk (show l.length = l.length from rfl)
    by_cases hp : placeE l e ≥ 0
    · simp only [if_pos hp]
      have hp1 : decide (placeE l e ≥ 0) = true := decide_eq_true hp
      generalize placeE l e = pl at *
      clear h0 h2 ht hm ha hm1 ha1 hl hl1 hs hse HCP HIN hcp hp
      obtain ⟨em, ep, es, ea⟩ := e
      simp only at *
      go_enter Try.func10, Try.ntmps10
      go_wp2_with fail
      refine Calls.mono (HCK.out _ H2.out.ct.tab H2.out.ct.hm H2.out.ct.ha) ?_
      rintro r w3 ⟨rfl, hb⟩
      have H3 := Aside0.mk (H2.out.next hb)
      clear hb
      have f0 := cellOf H3.out.ct.hold.at1 0
      have f1 := cellOf H3.out.ct.hold.at1 1
      have f2 := cellOf H3.out.ct.hold.at1 2
      have f3 := cellOf H3.out.ct.hold.at1 3
      go_wp2_with fail
      refine Calls.mono (HFD.out _ H3.out.ct.hm H3.out.hl) ?_
      rintro r w4 ⟨rfl, hb⟩
      have HB := Aside0.mk (H3.out.next hb).ct.below
      clear hb
      go_wp2
      go_ret2
      exact ⟨_, rfl, Ans.nil _ _, HB.out⟩
    · have hp1 : decide (placeE l e ≥ 0) = false := decide_eq_false hp
      simp only [if_neg hp]
      by_cases hz : (l.length : Int) ≥ sz
      · simp only [if_pos hz]
        have hz1 : decide ((l.length : Int) ≥ sz) = true := decide_eq_true hz
        generalize placeE l e = pl at *
        clear h0 h2 ht hm ha hm1 ha1 hl hl1 hs hse HCP HIN hcp hp hz
        obtain ⟨em, ep, es, ea⟩ := e
        simp only at *
        go_enter Try.func10, Try.ntmps10
        go_wp2_with fail
        refine Calls.mono (HCK.out _ H2.out.ct.tab H2.out.ct.hm H2.out.ct.ha) ?_
        rintro r w3 ⟨rfl, hb⟩
        have H3 := Aside0.mk (H2.out.next hb)
        clear hb
        have f0 := cellOf H3.out.ct.hold.at1 0
        have f1 := cellOf H3.out.ct.hold.at1 1
        have f2 := cellOf H3.out.ct.hold.at1 2
        have f3 := cellOf H3.out.ct.hold.at1 3
        go_wp2_with fail
        refine Calls.mono (HFD.out _ H3.out.ct.hm H3.out.hl) ?_
        rintro r w4 ⟨rfl, hb⟩
        have H4 := Aside0.mk (H3.out.next hb)
        clear hb f0 f1 f2 f3
        have t2 := cellOf H4.out.ct.hold.tail.at1 2
        go_wp2
        go_ret2
        exact ⟨_, rfl, Ans.nil _ _, H4.out.ct.below⟩
      · simp only [if_neg hz]
        have hz1 : decide ((l.length : Int) ≥ sz) = false := decide_eq_false hz
        generalize placeE l e = pl at *
        clear h0 h2 ht hm ha hm1 ha1 hl hl1 hs hse HCP HIN hcp hp hz
        obtain ⟨em, ep, es, ea⟩ := e
        simp only at *
        go_enter Try.func10, Try.ntmps10
        go_wp2_with fail
        refine Calls.mono (HCK.out _ H2.out.ct.tab H2.out.ct.hm H2.out.ct.ha) ?_
        rintro r w3 ⟨rfl, hb⟩
        have H3 := Aside0.mk (H2.out.next hb)
        clear hb
        have f0 := cellOf H3.out.ct.hold.at1 0
        have f1 := cellOf H3.out.ct.hold.at1 1
        have f2 := cellOf H3.out.ct.hold.at1 2
        have f3 := cellOf H3.out.ct.hold.at1 3
        go_wp2_with fail
        refine Calls.mono (HFD.out _ H3.out.ct.hm H3.out.hl) ?_
        rintro r w4 ⟨rfl, hb⟩
        have H4 := Aside0.mk (H3.out.next hb)
        clear hb f0 f1 f2 f3
        have t2 := cellOf H4.out.ct.hold.tail.at1 2
        go_wp2_with fail
        refine region_float (BoxIs (w.heap.size + 1) (.cells #[.slice A0 em.length c0, .int .i64 ep, .string es, .slice A3 ea.length c3] 30 (0,0))) 7 [.float 0, .float 2, .one 1, .one 3, .one 4, .one 5, .one 6] (by kernel_rfl) (by kernel_rfl) H4.out.ct.hold.at1 ?_
        refine Pl.wp_float rfl rfl (.slice A1 l.length c1) (fun U hU => by go_simp) (fun _ _ _ h => h) ?_
        refine Pl.wp_float rfl rfl (.agg #[.slice A0 em.length c0, .int .i64 ep, .string es, .slice A3 ea.length c3]) (fun U hU => by have f0 := cellOf hU 0; have f1 := cellOf hU 1; have f2 := cellOf hU 2; have f3 := cellOf hU 3; go_simp) (fun _ _ _ h => h) ?_
        refine Pl.wp_one rfl rfl ?_
        go_simp
        have H5 := Aside0.mk (H4.out.next (pw_below_drewN (Below.refl _ _) 1))
        refine Calls.mono (HTS.out _ H5.out.hl) ?_
        rintro r w5 ⟨v, us, rfl, ho, hE, hb⟩
        have H6 := Aside0.mk (H5.out.next hb)
        have HT := Aside0.mk (And.intro ho hE)
        have HVB := Aside0.mk (show ∀ k, v.ownBlock = some k → k ≠ w.heap.size + 1 from fun k hk e => by
          have h1 := own_base ho k hk
          have h2 : w.heap.size + 1 < w4.heap.size := (Array.getElem?_eq_some_iff.1 H4.out.ct.hold.at1).1
          have h3 : w4.drew.heap.size = w4.heap.size := rfl
          omega)
        have HS5 := Aside0.mk (show w.heap.size ≤ w4.drew.heap.size from H4.out.ct.below.size)
        clear ho hE hb
        refine ⟨H6.out.ct.hold.at1, ?_⟩
        refine Pl.wp_one rfl rfl ?_
        go_simp
        refine Calls.mono (HTW.out _ H6.out.ct.hm H6.out.ct.ha) ?_
        rintro r w6 ⟨u1, u2, rfl, hE, hb⟩
        have H7 := Aside0.mk (H6.out.next hb)
        have HEN := Aside0.mk (Ents.snoc (HT.out.2.base_ HS5.out) hb hE H6.out.ct.below.size)
        have HO7 := Aside0.mk (own_weaken (Foot.own (Foot.ofBelow hb (fun _ => False)) HT.out.1 (fun _ _ h => h)) HS5.out)
        have HLN := Aside0.mk HT.out.2.len
        have hE1 := hE.m.form
        have hE2 := hE.a.form
        simp only at hE1 hE2
        obtain ⟨Am, cm, rfl, _⟩ := hE1
        obtain ⟨Aa, ca, rfl, _⟩ := hE2
        clear hE hb HT
        refine ⟨H7.out.ct.hold.at1, ?_⟩
        refine Pl.wp_one rfl rfl ?_
        go_simp
        have HC := Aside0.mk (Cells.lit w6 30 #[.slice Am em.length cm, .int .i64 ep, .string es, .slice Aa ea.length ca] 1 4 rfl (by intro u hu; simp at hu; rcases hu with rfl | rfl | rfl | rfl <;> rfl))
        have H8 := Aside0.mk (H7.out.next (below_alloc (Below.refl _ _) (.cells #[.slice Am em.length cm, .int .i64 ep, .string es, .slice Aa ea.length ca] 30)))
        have HO8 := Aside0.mk (HO7.out.alloc (.cells #[.slice Am em.length cm, .int .i64 ep, .string es, .slice Aa ea.length ca] 30))
        have HU8 := Aside0.mk (HEN.out.keep (below_alloc (Below.refl w6.heap.size w6) (.cells #[.slice Am em.length cm, .int .i64 ep, .string es, .slice Aa ea.length ca] 30)))
        refine ⟨H8.out.ct.hold.at1, ?_⟩
        refine Pl.wp_one rfl rfl ?_
        obtain ⟨vA, vL, vc, rfl, hvL⟩ := own_form HO8.out
        refine wp_append_cells w.heap.size _ _ 26 30 _ 4 72 rfl Try.underlying26 infoE rfl (by decide) (by decide) (.slice vA vL vc) l.length (entsL l us) [.slice Am em.length cm, .int .i64 ep, .string es, .slice Aa ea.length ca] _ 1 1 rfl rfl HO8.out HC.out H8.out.ct.below.size (by omega) ?_
        intro v1 w9 hown hg hat
        have hbx := H8.out.ct.hold.at1
        have HU9 := Aside0.mk (HU8.out.cut (fun q t cs hq ht => hg.block q (Array.getElem?_eq_some_iff.1 hq).1 (by intro e; obtain ⟨cur, hc⟩ := own_typed HO8.out q e.symm; rw [hq] at hc; injection hc with hc; injection hc with _ hc; subst hc; rcases ht with h | h <;> cases h)))
        have HB9 := Aside0.mk (H8.out.ct.below.trans (own_grown HO8.out hg H8.out.ct.below.size))
        have HBX9 := Aside0.mk (show BoxIs (w.heap.size + 1) _ w9 from (hg.block _ (Array.getElem?_eq_some_iff.1 hbx).1 (fun e => HVB.out _ e.symm rfl)).trans hbx)
        have HR9 := Aside0.mk (CRow.of_own hown)
        refine ⟨?_, ?_⟩
        · exact HBX9.out
        refine Pl.wp_one rfl rfl ?_
        go_simp
        refine Calls.mono (clipE_row w9 HR9.out) ?_
        rintro r w10 ⟨v2, rfl, hr2, _, rfl⟩
        refine ⟨?_, ?_⟩
        · exact HBX9.out
        simp only [Pl.wp, List.drop]
        go_wp2
        go_ret2
        refine ⟨_, rfl, ⟨_, ?_, HU9.out⟩, HB9.out⟩
        rw [entsL_snoc _ _ _ _ HLN.out, List.length_append]
        exact hr2
  · rw [hcp] at HCK
    simp only [hcp]
    clear h0 h2 ht hm ha hm1 ha1 hl hl1 hs hse HCP HIN hcp
    obtain ⟨em, ep, es, ea⟩ := e
    simp only at *
    go_enter Try.func10, Try.ntmps10
    go_wp2_with fail
    refine Calls.mono (HCK.out _ H2.out.ct.tab H2.out.ct.hm H2.out.ct.ha) ?_
    rintro r w3 ⟨rfl, hb⟩
    have HB := Aside0.mk (H2.out.next hb).ct.below
    clear hb
    go_wp2
    go_ret2
    exact ⟨_, rfl, Ans.nil _ _, HB.out⟩
end Go.Proofs.Ytdfmeclhpefmfaa.Own

/- slices.Delete of one entry, in a row of the call's own. -/
set_option linter.unusedVariables false
set_option linter.unusedSimpArgs false
set_option maxRecDepth 100000
namespace Go.Proofs.Ytdfmeclhpefmfaa.Own
open Go.RowKit Go.Proofs.Ytdfmeclhpefmfaa.K YtdfmeclhpefmfaaW.PrintWords YtdfmeclhpefmfaaW.PrintLast YtdfmeclhpefmfaaW.PrintMore

theorem setCells_heap {g : Nat} {t : TypeId} {fr : Nat × Nat} : ∀ (vs : List Value) (o : Nat) (w : World) (cs : Array Value), w.heap[g]? = some (.cells cs t fr) → o + vs.length ≤ cs.size →
    ∃ cs', (w.setCells g o vs).heap[g]? = some (.cells cs' t fr) ∧ cs'.size = cs.size ∧ cs'.toList = cs.toList.take o ++ vs ++ cs.toList.drop (o + vs.length)
  | [], o, w, cs, h, _ => ⟨cs, h, rfl, by simp⟩
  | v :: vs, o, w, cs, h, hl => by
    obtain ⟨cs', h1, h2, h3⟩ := setCells_heap vs (o + 1) (w.setCell ⟨g, o, none⟩ v) (cs.setIfInBounds o v) (setCell_heap h o v) (by simp only [List.length_cons] at hl; simp; omega)
    refine ⟨cs', h1, by simpa using h2, ?_⟩
    rw [h3]
    simp only [List.length_cons] at hl ⊢
    have ho : o < cs.toList.length := by simp; omega
    rw [Array.toList_setIfInBounds, List.drop_set, if_pos (by omega), List.take_add_one, List.take_set, List.getElem?_set_self ho, List.set_eq_of_length_le (by rw [List.length_take]; omega)]
    simp only [Option.toList_some, List.append_assoc, List.cons_append, List.nil_append]
    rw [show o + 1 + vs.length = o + (vs.length + 1) by omega]
theorem setCells_foot {F : Nat → Prop} {a : World} {g : Nat} (hF : F g) : ∀ (vs : List Value) (o : Nat) (w : World), Foot F a w → Foot F a (w.setCells g o vs)
  | [], _, _, h => h
  | v :: vs, o, w, h => setCells_foot hF vs (o + 1) _ (h.setCell (.inl hF) v)
def zE : List Value := [.slice none 0 0, .int .i64 0, .string ⟨#[]⟩, .slice none 0 0]
theorem clear_one (w : World) (g o c : Nat) (hc : ∀ j, j < 4 → (w.cell? ⟨g, o + j, none⟩).isSome = true) (hf : ∀ j, j < 4 → w.frozen? ⟨g, o + j, none⟩ = false) (ty : TypeId) :
    (Builtin.clear_ #[26] ty #[.slice (some ⟨g, o, none⟩) 1 c]).run Try.prog w = .ok (.tuple #[]) (w.setCells g o zE) := by
  have hz : ∀ w, (zeroValue 30).run Try.prog w = .ok (.agg #[.slice none 0 0, .int .i64 0, .string ⟨#[]⟩, .slice none 0 0]) w := fun w => by kernel_rfl
  have hst := run_storeCells_cells (P := Try.prog) g o zE 0 w (by simpa [zE] using hc) (by simpa [zE] using hf) (by intro v hv; simp [zE] at hv; rcases hv with rfl | rfl | rfl | rfl <;> rfl)
  simp only [Nat.add_zero] at hst
  have hzc : (Builtin.zeroCells (Value.agg #[.slice none 0 0, .int .i64 0, .string ⟨#[]⟩, .slice none 0 0]).cells 1).toList = zE := by
    simp [Builtin.zeroCells, Value.cells, zE]
    rfl
  simp [Builtin.clear_, run_underlying Try.underlying26, hz, hzc, hst]
/-- A row without its element i. -/
def without (xs : List Value) (i : Nat) : List Value := xs.take (i * 4) ++ xs.drop ((i + 1) * 4)
set_option maxHeartbeats 4000000 in
theorem delete_any (g i n cap : Nat) (cur : Array Value) (w : World) (hg : w.heap[g]? = some (.cells cur 30 (0, 0))) (hi : i < n) (hn : n ≤ cap) (hc : cap * 4 ≤ cur.size) (hm : cap ≤ 9223372036854775807) (h1 : ∀ u ∈ cur.toList.take (n * 4), u.oneCell' = true) :
    Calls Try.prog 32 #[.slice (some ⟨g, 0, none⟩) n cap, .int .i64 (i : Int), .int .i64 ((i + 1 : Nat) : Int)] w fun r w' => r = .returned (.slice (some ⟨g, 0, none⟩) (n - 1) cap) ∧ (∃ cur', w'.heap[g]? = some (.cells cur' 30 (0, 0)) ∧ cur'.size = cur.size ∧ cur'.toList.take ((n - 1) * 4) = without (cur.toList.take (n * 4)) i) ∧ Foot (fun k => k = g) w w' := by
  obtain ⟨i0, hi0, hzz⟩ := Option.map_eq_some_iff.1 infoE
  simp only [Prod.mk.injEq] at hzz
  obtain ⟨hz0, hz1, hz2⟩ := hzz
  obtain ⟨j, hj⟩ : ∃ j, j = i + 1 := ⟨_, rfl⟩
  rw [← hj]
  obtain ⟨news, hnews⟩ : ∃ news, news = (cur.toList.take (n * 4)).drop (j * 4) := ⟨_, rfl⟩
  have hcl : cur.toList.length = cur.size := Array.length_toList
  have hlen : news.length = (n - j) * 4 := by rw [hnews]; simp; omega
  have hd : w.drew.heap[g]? = some (.cells cur 30 (0, 0)) := hg
  obtain ⟨A, hA, hsrc⟩ : ∃ A : Addr, (if cap = j then some (⟨g, 0, none⟩ : Addr) else some ⟨g, j * 4, none⟩) = some A ∧ Aside0 (∀ t u, news[t]? = some u → w.drew.cell? (A.add t) = some u) := by
    by_cases h : cap = j
    · refine ⟨⟨g, 0, none⟩, by simp [h], ⟨fun t u hu => ?_⟩⟩
      have h0 : news.length = 0 := by rw [hlen]; omega
      rw [List.length_eq_zero_iff.1 h0] at hu
      simp at hu
    · refine ⟨⟨g, j * 4, none⟩, by simp [h], ⟨fun t u hu => ?_⟩⟩
      have ht : t < news.length := (List.getElem?_eq_some_iff.1 hu).1
      rw [hnews, List.getElem?_drop, List.getElem?_take_of_lt (by omega), Array.getElem?_toList] at hu
      rw [Addr.add_lit, cellOf hd]
      exact hu
  have s1 := Aside0.mk hlen
  have s2 := Aside0.mk (show ∀ u ∈ news, u.oneCell' = true from fun u hu => h1 u (by rw [hnews] at hu; exact List.mem_of_mem_drop hu))
  have s3 := Aside0.mk (show ∀ t, t < news.length → (w.drew.cell? ⟨g, 0 + i * 4 + t, none⟩).isSome = true ∧ w.drew.frozen? ⟨g, 0 + i * 4 + t, none⟩ = false from by
    intro t ht
    rw [hlen] at ht
    refine ⟨?_, frozenOf hd _⟩
    rw [cellOf hd, Array.getElem?_eq_getElem (by omega)]
    rfl)
  obtain ⟨W1, hW1⟩ : ∃ W1, W1 = w.drew.setCells g (0 + i * 4) news := ⟨_, rfl⟩
  obtain ⟨c1, k1, k2, k3⟩ := setCells_heap news (0 + i * 4) w.drew cur hd (by rw [hlen]; omega)
  rw [← hW1] at k1
  have hF1 : Foot (fun k => k = g) w W1 := by rw [hW1]; exact setCells_foot (F := fun k => k = g) rfl _ _ _ (Foot.refl _ w).drew
  have hcl : ∀ ty c, (Builtin.clear_ #[26] ty #[.slice (some ⟨g, (n - 1) * 4, none⟩) 1 c]).run Try.prog W1 = .ok (.tuple #[]) (W1.setCells g ((n - 1) * 4) zE) := fun ty c => clear_one W1 g ((n - 1) * 4) c (fun t ht => by rw [cellOf k1, Array.getElem?_eq_getElem (by omega)]; rfl) (fun t ht => frozenOf k1 _) ty
  obtain ⟨c2, m1, m2, m3⟩ := setCells_heap zE ((n - 1) * 4) W1 c1 k1 (by simp only [zE, List.length_cons, List.length_nil]; omega)
  have HEND := Aside0.mk (show (∃ cur', (W1.setCells g ((n - 1) * 4) zE).heap[g]? = some (.cells cur' 30 (0, 0)) ∧ cur'.size = cur.size ∧ cur'.toList.take ((n - 1) * 4) = without (cur.toList.take (n * 4)) i) ∧ Foot (fun k => k = g) w (W1.setCells g ((n - 1) * 4) zE) from by
    refine ⟨⟨c2, m1, by omega, ?_⟩, setCells_foot (F := fun k => k = g) rfl _ _ _ hF1⟩
    have hl1 : c1.toList.length = cur.size := by rw [Array.length_toList, k2]
    rw [m3, List.append_assoc, List.take_left' (by rw [List.length_take, hl1]; omega), k3, Nat.zero_add, List.take_left' (by simp; omega)]
    unfold without
    rw [List.take_take, Nat.min_eq_left (by omega), hnews, hj])
  have hW := Aside0.mk hW1
  have hic : i ≤ cap := by omega
  have hjc : j ≤ cap := by omega
  have hij : ¬ ((i : Int) = (j : Int)) := by omega
  have hij2 : ((i : Int) == (j : Int)) = false := by simp; omega
  have e1 : i + (n - j) = n - 1 := by omega
  have hjn : (j : Int) ≤ (n : Int) := by omega
  have hijl : (i : Int) ≤ (j : Int) := by omega
  have hi0' : (0 : Int) ≤ (i : Int) := by omega
  have hncI : (n : Int) ≤ (cap : Int) := by omega
  clear hW1 hF1 hnews hlen k1 k2 k3 m1 m2 m3 hg hd h1 hj
  go_enter Try.func32, Try.ntmps32
  go_wp2_with fail
  go_region_law (refine step_append_room rfl (.tmp 22) (.tmp 25) 26 rfl 30 i0 4 Try.underlying26 hi0 hz1 g 0 i cap (by simp [Act.eval, Act.put]) A (n - j) (cap - j) news (by simp [Act.eval, Act.put]) s1.out hsrc.out s2.out (by omega) s3.out ?_; rw [← hW.out])
  have e2 : n - (n - 1) = 1 := by omega
  have e3 : (cap = n - 1) = False := eq_false (by omega)
  have e4 : ¬ ((n : Int) ≤ (n : Int) - 1) := by omega
  have e5 : ((n - 1 : Nat) : Int) ≤ (n : Int) := by omega
  go_wp2_with fail
  trace_state
  go_ret
  exact ⟨rfl, HEND.out⟩
end Go.Proofs.Ytdfmeclhpefmfaa.Own

/- Delete. -/
set_option linter.unusedVariables false
set_option linter.unusedSimpArgs false
set_option maxRecDepth 100000
namespace Go.Proofs.Ytdfmeclhpefmfaa.Own
open Go.RowKit Go.Proofs.Ytdfmeclhpefmfaa.K YtdfmeclhpefmfaaW.PrintWords YtdfmeclhpefmfaaW.PrintLast YtdfmeclhpefmfaaW.PrintMore

theorem fIdx_spec {α : Type} (p : α → Bool) (z : α) : ∀ l : List α, (fIdx p l = -1 ∧ l.any p = false) ∨ ∃ k : Nat, fIdx p l = (k : Int) ∧ k < l.length ∧ p (l.getD k z) = true ∧ (l.take k).any p = false
  | [] => .inl ⟨rfl, rfl⟩
  | x :: xs => by
    by_cases hx : p x = true
    · exact .inr ⟨0, by simp [fIdx, hx], by simp, by simpa using hx, rfl⟩
    · have hx' : p x = false := by simpa using hx
      rcases fIdx_spec p z xs with ⟨h1, h2⟩ | ⟨k, h1, h2, h3, h4⟩
      · exact .inl ⟨by simp [fIdx, hx', h1], by simp [hx', h2]⟩
      · refine .inr ⟨k + 1, ?_, by simpa using h2, by simpa using h3, by simp [hx', h4]⟩
        have : ¬ ((k : Int) < 0) := by omega
        simp [fIdx, hx', h1, this]
theorem flat_take {α : Type} (f : α → List Value) (sz : Nat) (hf : ∀ x, (f x).length = sz) : ∀ (l : List α) (k : Nat), (l.flatMap f).take (k * sz) = (l.take k).flatMap f
  | [], k => by simp
  | x :: xs, 0 => by simp
  | x :: xs, k + 1 => by
    rw [List.flatMap_cons, List.take_succ_cons, List.flatMap_cons, ← flat_take f sz hf xs k, Nat.succ_mul, show k * sz + sz = (f x).length + k * sz by rw [hf x]; omega, List.take_length_add_append]
theorem flat_drop {α : Type} (f : α → List Value) (sz : Nat) (hf : ∀ x, (f x).length = sz) : ∀ (l : List α) (k : Nat), (l.flatMap f).drop (k * sz) = (l.drop k).flatMap f
  | [], k => by simp
  | x :: xs, 0 => by simp
  | x :: xs, k + 1 => by
    rw [List.flatMap_cons, List.drop_succ_cons, ← flat_drop f sz hf xs k, Nat.succ_mul, show k * sz + sz = (f x).length + k * sz by rw [hf x]; omega, List.drop_length_add_append]
/-- A list without its element k. -/
def cutAt {α : Type} (l : List α) (k : Nat) : List α := l.take k ++ l.drop (k + 1)
theorem cutAt_len {α : Type} (l : List α) (k : Nat) (h : k < l.length) : (cutAt l k).length = l.length - 1 := by
  unfold cutAt
  simp
  omega
theorem entsL_cut (l : List S30) (us : List EV) (h : us.length = l.length) (k : Nat) : entsL (cutAt l k) (cutAt us k) = without (entsL l us) k := by
  unfold entsL without cutAt
  rw [flat_take _ 4 (fun _ => rfl), flat_drop _ 4 (fun _ => rfl), ← List.flatMap_append]
  rw [List.zip_append (by simp [h])]
  congr 1
  simp only [List.zip, List.take_zipWith, List.drop_zipWith]
theorem cutAt_get {α : Type} (l : List α) (z : α) (k i : Nat) (hk : k < l.length) : (cutAt l k).getD i z = if i < k then l.getD i z else l.getD (i + 1) z := by
  unfold cutAt
  by_cases h : i < k
  · rw [if_pos h, List.getD_eq_getElem?_getD, List.getD_eq_getElem?_getD, List.getElem?_append_left (by simp; omega), List.getElem?_take_of_lt h]
  · rw [if_neg h, List.getD_eq_getElem?_getD, List.getD_eq_getElem?_getD, List.getElem?_append_right (by simp; omega), List.getElem?_drop]
    congr 2
    simp
    omega
theorem Ents.cutAt {W : World} {base : Nat} {l : List S30} {us : List EV} (h : Ents W base l us) (k : Nat) (hk : k < l.length) : Ents W base (cutAt l k) (cutAt us k) := by
  refine ⟨by rw [cutAt_len _ _ hk, cutAt_len _ _ (by rw [h.len]; exact hk), h.len], fun i hi => ?_, ?_⟩
  · rw [cutAt_len _ _ hk] at hi
    rw [cutAt_get _ _ _ _ hk, cutAt_get _ _ _ _ (by rw [h.len]; exact hk)]
    split
    · exact h.ok i (by omega)
    · exact h.ok (i + 1) (by omega)
  · refine h.apart.sublist ?_
    unfold Own.cutAt
    have := List.Sublist.append (List.Sublist.refl (us.take k)) (List.drop_sublist 1 (us.drop k))
    rwa [List.take_append_drop, List.drop_drop] at this
theorem entL_one (x : S30) (u : EV) (h1 : u.1.oneCell' = true) (h2 : u.2.oneCell' = true) : ∀ v ∈ entL x u, v.oneCell' = true := by
  intro v hv
  simp [entL] at hv
  rcases hv with rfl | rfl | rfl | rfl
  · exact h1
  · rfl
  · rfl
  · exact h2
theorem Ents.one {W : World} {base : Nat} {l : List S30} {us : List EV} (h : Ents W base l us) : ∀ v ∈ entsL l us, v.oneCell' = true := by
  intro v hv
  obtain ⟨p, hp, hv⟩ := List.mem_flatMap.1 hv
  obtain ⟨i, hi, rfl⟩ := List.mem_iff_getElem.1 hp
  have hil : i < l.length := by rw [List.length_zip] at hi; omega
  have ho := h.ok i hil
  have e2 : us.getD i zEV = us[i]'(by rw [h.len]; exact hil) := by simp [List.getD_eq_getElem?_getD, List.getElem?_eq_getElem (show i < us.length by rw [h.len]; exact hil)]
  rw [e2] at ho
  obtain ⟨A1, c1, e1, _⟩ := ho.m.form
  obtain ⟨A2, c2, e3, _⟩ := ho.a.form
  refine entL_one _ _ ?_ ?_ v hv
  · rw [List.getElem_zip, e1]; rfl
  · rw [List.getElem_zip, e3]; rfl
/-- What Delete tells. -/
def delP (ks ws : List Int) (sz : Int) (l : List S30) (e : S30) : List S30 × Int :=
  if checkP ks ws sz e = 0 then (if placeE l e < 0 then ([], 11) else (cutAt l (placeE l e).toNat, 0)) else ([], checkP ks ws sz e)
set_option maxHeartbeats 3200000 in
theorem delete_ok {A : Option Addr} {c : Nat} {ks : List Int} {B : Option Addr} {d : Nat} {ws : List Int} (sz : Int) {A1 : Option Addr} {c1 : Nat} (l : List S30) {A0 : Option Addr} {c0 : Nat} {A3 : Option Addr} {c3 : Nat} (e : S30) (w : World) (ht : TabAt w A c ks B d ws)
    (hm : Kd.C k42 w A0 e.f0.length e.f0) (hm1 : e.f0.length ≤ c0) (ha : Kd.C k40 w A3 e.f3.length e.f3) (ha1 : e.f3.length ≤ c3) (hl : Kd.C k30 w A1 l.length l) (hl1 : l.length ≤ c1) (hs : small l) (hse : e.f0.length ≤ 1000000 ∧ e.f3.length ≤ 1000000) :
    Calls Try.prog 15 #[.agg #[.slice A ks.length c, .slice B ws.length d, .int .i64 sz], .slice A1 l.length c1, .agg #[.slice A0 e.f0.length c0, .int .i64 e.f1, .string e.f2, .slice A3 e.f3.length c3]] w fun r w' => ∃ v, r = .returned (.tuple #[v, .int .i64 (delP ks ws sz l e).2]) ∧ Ans w w' v (delP ks ws sz l e).1 ∧ Below w.heap.size w w' := by
  have hu25 := Try.underlying25
  have hu30 := Try.underlying30
  have h0 : IT [] w A c ks B d ws A0 A3 e A1 l w := ⟨⟨fun x hx => (by cases hx), ht, hm, ha, Below.refl _ _⟩, hl⟩
  have h2 := (h0.box (.cells #[.slice A ks.length c, .slice B ws.length d, .int .i64 sz] 25 (0,0))).box (.cells #[.slice A0 e.f0.length c0, .int .i64 e.f1, .string e.f2, .slice A3 e.f3.length c3] 30 (0,0))
  rw [show (w.alloc (.cells #[.slice A ks.length c, .slice B ws.length d, .int .i64 sz] 25 (0,0))).heap.size = w.heap.size + 1 by simp] at h2
  obtain ⟨bs, hbs⟩ : ∃ bs, bs = [(w.heap.size + 1, Obj.cells #[.slice A0 e.f0.length c0, .int .i64 e.f1, .string e.f2, .slice A3 e.f3.length c3] 30 (0,0)), (w.heap.size, Obj.cells #[.slice A ks.length c, .slice B ws.length d, .int .i64 sz] 25 (0,0))] := ⟨_, rfl⟩
  rw [← hbs] at h2
  have H2 := Aside0.mk h2
  have HBS := Aside0.mk (show ∀ W, Hold bs W → W.heap[w.heap.size + 1]? = some (.cells #[.slice A0 e.f0.length c0, .int .i64 e.f1, .string e.f2, .slice A3 e.f3.length c3] 30 (0,0)) ∧ W.heap[w.heap.size]? = some (.cells #[.slice A ks.length c, .slice B ws.length d, .int .i64 sz] 25 (0,0)) from fun W h => by
    rw [hbs] at h
    exact ⟨h.at1, h.tail.at1⟩)
  obtain ⟨cp, hcp⟩ : ∃ cp, cp = checkP ks ws sz e := ⟨_, rfl⟩
  obtain ⟨pl, hpl⟩ : ∃ pl, pl = placeE l e := ⟨_, rfl⟩
  have HCK := Aside0.mk (fun W (h : IT bs w A c ks B d ws A0 A3 e A1 l W) => check_any (c0 := c0) (c3 := c3) sz e W h.ct.tab h.ct.hm hm1 h.ct.ha ha1)
  have HFD := Aside0.mk (fun W (h : IT bs w A c ks B d ws A0 A3 e A1 l W) => find_any e A0 A3 c0 c3 A1 c1 l W h.ct.hm hm1 h.hl hl1)
  have HTS := Aside0.mk (fun W (hL : Kd.C k30 W A1 l.length l) => twins_any l (c := c1) W hL hs.1 hs.2)
  have hll := hs.1
  have HPL := Aside0.mk (show pl = -1 ∨ ∃ k : Nat, pl = (k : Int) ∧ k < l.length from by
    rw [hpl]
    rcases fIdx_spec (oneB e) z30 l with ⟨h, _⟩ | ⟨k, h, h1, _⟩
    · exact .inl h
    · exact .inr ⟨k, h, h1⟩)
  have HC := Aside0.mk (show cp = 0 ∨ cp = 1 from by rw [hcp]; exact checkP_cases _ _ _ _)
  unfold delP
  rw [← hcp, ← hpl]
  rw [← hcp] at HCK
  rw [← hpl] at HFD
  clear h0 h2 ht hm ha hm1 ha1 hl hl1 hs hse hcp hpl hbs
  obtain ⟨em, ep, es, ea⟩ := e
  simp only at *
  obtain ⟨C, HF⟩ : ∃ C : World → Prop, Aside0 (∀ W, C W ↔ IT bs w A c ks B d ws A0 A3 ⟨em, ep, es, ea⟩ A1 l W) := ⟨_, ⟨fun W => Iff.rfl⟩⟩
  go_enter Try.func15, Try.ntmps15
  go_wp2_with fail
  have HC0 := Aside0.mk ((HF.out _).2 (H2.out.next (pw_below_drewN (Below.refl _ _) 1)))
  refine region_class C (by kernel_rfl) (by kernel_rfl) HC0.out ?_
  repeat
    (first
      | go_big_quiet_skip
      | (go_big_quiet_want; first
          | (go_big_quiet_op; go_big_quiet_on)
          | (unfold Oper.quiet; apply Exists.intro; refine ⟨fun W hW => ?_, ?_⟩
             · have hIT := (HF.out W).1 hW
               have hq := HBS.out W hIT.ct.hold
               have f0 := cellOf hq.1 0
               have f1 := cellOf hq.1 1
               have f2 := cellOf hq.1 2
               have f3 := cellOf hq.1 3
               have t0 := cellOf hq.2 0
               have t1 := cellOf hq.2 1
               have t2 := cellOf hq.2 2
               go_simp
               first
                 | with_reducible rfl
                 | (go_at_call 20; refine Calls.mono (HCK.out W hIT) ?_; rintro r w7 ⟨rfl, hb7⟩; exact ⟨rfl, (HF.out _).2 (hIT.next hb7)⟩)
                 | (go_at_call 21; refine Calls.mono (HFD.out W hIT) ?_; rintro r w7 ⟨rfl, hb7⟩; exact ⟨rfl, (HF.out _).2 (hIT.next hb7)⟩)
             go_simp
             go_big_quiet_on)))
  refine wpQuiet_nil ?_
  intro W' hW'
  have HE := Aside0.mk ((HF.out W').1 hW')
  clear hW' HF HC0
  rcases HC.out with rfl | rfl
  · rcases HPL.out with rfl | ⟨k, rfl, hk⟩
    · go_wp2
      go_ret2
      exact ⟨_, rfl, Ans.nil _ _, HE.out.ct.below⟩
    · have hk0 : decide ((k : Int) < 0) = false := decide_eq_false (by omega)
      have hk1 : ¬ ((k : Int) < 0) := by omega
      have hw1 : IntKind.i64.wrap ((k : Int) + 1) = ((k + 1 : Nat) : Int) := by rw [IntKind.wrap_i64]; omega
      go_wp2_with fail
      refine Calls.mono (HTS.out _ HE.out.hl) ?_
      rintro r w5 ⟨v, us, rfl, ho, hE, hb⟩
      have hkl : (entsL l us).length = l.length * 4 := entsL_len hE.len
      have hcut := HE.out.ct.below.size
      have HLE := Aside0.mk hE.len
      have HAP := Aside0.mk (own_base ho)
      have HEN := Aside0.mk (hE.base_ hcut)
      have HBB := Aside0.mk (HE.out.ct.below.trans (hb.mono hcut))
      have HONE := Aside0.mk hE.one
      obtain ⟨g, cap, cur, rfl, hg1, hg2, hg3, hg4, hg5, hg6⟩ : ∃ g cap cur, v = .slice (some ⟨g, 0, none⟩) l.length cap ∧ W'.heap.size ≤ g ∧ w5.heap[g]? = some (.cells cur 30 (0, 0)) ∧ l.length ≤ cap ∧ cap ≤ maxLen ∧ cur.size = cap * 4 ∧ cur.toList.take (l.length * 4) = entsL l us := by
        rcases ho.2 with ⟨_, h0⟩ | ⟨g, cap, cur, h1, h2, h3, h4, h5, h6, h7⟩
        · omega
        · exact ⟨g, cap, cur, h1, h2, h3, h4, h5, h6, h7⟩
      have HDL := Aside0.mk (delete_any g k l.length cap cur w5 hg2 hk hg3 (by omega) (by simpa [maxLen] using hg4) (by rw [hg6]; exact HONE.out))
      have HGT := Aside0.mk (And.intro hg1 hg2)
      have HCP := Aside0.mk (And.intro hg3 (And.intro hg4 (And.intro hg5 hg6)))
      clear ho hE hb hg1 hg2 hg3 hg4 hg5 hg6 hkl
      go_wp2_with fail
      refine Calls.mono HDL.out ?_
      rintro r w6 ⟨rfl, ⟨cur', q1, q2, q3⟩, hf⟩
      have HEN6 := Aside0.mk (HEN.out.cut (W' := w6) (fun q t cs hq ht => hf.block q (Array.getElem?_eq_some_iff.1 hq).1 (by rintro rfl; rw [HGT.out.2] at hq; injection hq with hq; injection hq with _ hq; subst hq; rcases ht with h | h <;> cases h)))
      have HB6 := Aside0.mk (HBB.out.trans (hf.below (B := w.heap.size) (fun i hi => by rw [hi]; exact Nat.le_trans hcut HGT.out.1) HBB.out.size))
      have hrow : CRow w6 w.heap.size 30 4 (.slice (some ⟨g, 0, none⟩) (l.length - 1) cap) (l.length - 1) (entsL (cutAt l k) (cutAt us k)) := by
        obtain ⟨h3, h4, h5, h6⟩ := HCP.out
        rw [entsL_cut l us HLE.out k]
        refine ⟨?_, .inr ⟨g, cap, cur', rfl, Nat.le_trans hcut HGT.out.1, q1, by omega, h4, by omega, ?_⟩⟩
        · have := entsL_len HLE.out
          unfold without
          simp only [List.length_append, List.length_take, List.length_drop, this]
          omega
        · rw [q3, h6]
      have HROW := Aside0.mk hrow
      clear hrow q1 q2 q3 hf
      go_wp2_with fail
      refine Calls.mono (clipE_row w6 HROW.out) ?_
      rintro r w7 ⟨v2, rfl, hr2, _, rfl⟩
      go_wp2
      go_ret2
      refine ⟨v2, by first | rfl | simp, ⟨cutAt us k, ?_, HEN6.out.cutAt k hk⟩, HB6.out⟩
      rw [cutAt_len _ _ hk]
      exact hr2
  · go_wp2
    go_ret2
    exact ⟨_, rfl, Ans.nil _ _, HE.out.ct.below⟩
end Go.Proofs.Ytdfmeclhpefmfaa.Own

/- Modify. -/
set_option linter.unusedVariables false
set_option linter.unusedSimpArgs false
set_option maxRecDepth 100000
namespace Go.Proofs.Ytdfmeclhpefmfaa.Own
open Go.RowKit Go.Proofs.Ytdfmeclhpefmfaa.K YtdfmeclhpefmfaaW.PrintWords YtdfmeclhpefmfaaW.PrintLast YtdfmeclhpefmfaaW.PrintMore

/-- An entry with another one's action. -/
def actE (x e : S30) : S30 := ⟨x.f0, x.f1, e.f2, e.f3⟩
theorem entsL_set (l : List S30) (us : List EV) (h : us.length = l.length) (k : Nat) (hk : k < l.length) (e : S30) (v : Value) :
    ((entsL l us).set (k * 4 + 2) (.string e.f2)).set (k * 4 + 3) v = entsL (l.set k (actE (l.getD k z30) e)) (us.set k ((us.getD k zEV).1, v)) := by
  have hl1 := entsL_len h
  have h' : (us.set k ((us.getD k zEV).1, v)).length = (l.set k (actE (l.getD k z30) e)).length := by simp [h]
  have hl2 := entsL_len h'
  apply List.ext_getElem?
  intro q
  by_cases hq : q < l.length * 4
  · have hd : q / 4 * 4 + q % 4 = q := by omega
    have hi : q / 4 < l.length := by omega
    have hj : q % 4 < 4 := by omega
    generalize q / 4 = i at *
    generalize q % 4 = j at *
    subst hd
    rw [entsL_get h' i j (by simpa using hi) hj]
    by_cases hik : i = k
    · subst hik
      have e1 : (l.set i (actE (l.getD i z30) e)).getD i z30 = actE (l.getD i z30) e := by simp [List.getD_eq_getElem?_getD, List.getElem?_set_self hi]
      have e2 : (us.set i ((us.getD i zEV).1, v)).getD i zEV = ((us.getD i zEV).1, v) := by simp [List.getD_eq_getElem?_getD, List.getElem?_set_self (show i < us.length by omega)]
      rw [e1, e2]
      have hg := entsL_get h i j hi hj
      match j, hj with
      | 0, _ => rw [List.getElem?_set_ne (by omega), List.getElem?_set_ne (by omega), hg]; rfl
      | 1, _ => rw [List.getElem?_set_ne (by omega), List.getElem?_set_ne (by omega), hg]; rfl
      | 2, _ => rw [List.getElem?_set_ne (by omega), List.getElem?_set_self (by rw [hl1]; omega)]; rfl
      | 3, _ => rw [List.getElem?_set_self (by rw [List.length_set, hl1]; omega)]; rfl
    · have e1 : (l.set k (actE (l.getD k z30) e)).getD i z30 = l.getD i z30 := by simp [List.getD_eq_getElem?_getD, List.getElem?_set_ne (Ne.symm hik)]
      have e2 : (us.set k ((us.getD k zEV).1, v)).getD i zEV = us.getD i zEV := by simp [List.getD_eq_getElem?_getD, List.getElem?_set_ne (Ne.symm hik)]
      rw [e1, e2, List.getElem?_set_ne (by omega), List.getElem?_set_ne (by omega)]
      exact entsL_get h i j hi hj
  · rw [List.getElem?_eq_none (by simp [hl1]; omega), List.getElem?_eq_none (by rw [hl2]; simp; omega)]
theorem Ents.set {W0 W : World} {base : Nat} {l : List S30} {us : List EV} (h0 : Ents W0 base l us) (hb : Below W0.heap.size W0 W) {e : S30} {v : EV} (hx : EntOk W W0.heap.size e v) (hB : base ≤ W0.heap.size) (k : Nat) (hk : k < l.length) :
    Ents W base (l.set k (actE (l.getD k z30) e)) (us.set k ((us.getD k zEV).1, v.2)) := by
  have h := h0.keep hb
  refine ⟨by simp [h.len], fun i hi => ?_, ?_⟩
  · rw [List.length_set] at hi
    by_cases hik : i = k
    · subst hik
      have e1 : (l.set i (actE (l.getD i z30) e)).getD i z30 = actE (l.getD i z30) e := by simp [List.getD_eq_getElem?_getD, List.getElem?_set_self hi]
      have e2 : (us.set i ((us.getD i zEV).1, v.2)).getD i zEV = ((us.getD i zEV).1, v.2) := by simp [List.getD_eq_getElem?_getD, List.getElem?_set_self (show i < us.length by rw [h.len]; omega)]
      rw [e1, e2]
      exact ⟨(h.ok i hi).m, hx.a.base_ hB⟩
    · have e1 : (l.set k (actE (l.getD k z30) e)).getD i z30 = l.getD i z30 := by simp [List.getD_eq_getElem?_getD, List.getElem?_set_ne (Ne.symm hik)]
      have e2 : (us.set k ((us.getD k zEV).1, v.2)).getD i zEV = us.getD i zEV := by simp [List.getD_eq_getElem?_getD, List.getElem?_set_ne (Ne.symm hik)]
      rw [e1, e2]
      exact h.ok i hi
  · have hold : ∀ i (hi : i < us.length), (∀ q, us[i].2.ownBlock = some q → q < W0.heap.size) := fun i hi q hq => by
      have h1 := h0.ok i (by rw [← h0.len]; exact hi)
      have e2 : us.getD i zEV = us[i] := by simp [List.getD_eq_getElem?_getD, List.getElem?_eq_getElem hi]
      rw [e2] at h1
      exact (h1.a.lt q hq).2
    rw [List.pairwise_iff_getElem]
    intro i j hi hj hij
    simp only [List.length_set] at hi hj
    have hap := List.pairwise_iff_getElem.1 h.apart i j hi hj hij
    have eu : us.getD k zEV = us[k]'(by rw [h.len]; exact hk) := by simp [List.getD_eq_getElem?_getD, List.getElem?_eq_getElem (show k < us.length by rw [h.len]; exact hk)]
    rw [List.getElem_set, List.getElem_set]
    by_cases h1 : k = i
    · subst h1
      rw [if_pos rfl, if_neg (by omega)]
      have hfar : Far (us[k].1, v.2) us[j] := ⟨hap.1, fun q hq hq2 => by have := (hx.a.lt q hq).1; have := hold j hj q hq2; omega⟩
      rw [← eu] at hfar
      exact hfar
    · rw [if_neg h1]
      by_cases h2 : k = j
      · subst h2
        rw [if_pos rfl]
        have hfar : Far us[i] (us[k].1, v.2) := ⟨hap.1, fun q hq hq2 => by have := (hx.a.lt q hq2).1; have := hold i hi q hq; omega⟩
        rw [← eu] at hfar
        exact hfar
      · rw [if_neg h2]
        exact hap
/-- What Modify tells. -/
def modP (ks ws : List Int) (sz : Int) (l : List S30) (e : S30) : List S30 × Int :=
  if checkP ks ws sz e = 0 then (if placeE l e < 0 then ([], 11) else (l.set (placeE l e).toNat (actE (l.getD (placeE l e).toNat z30) e), 0)) else ([], checkP ks ws sz e)
set_option maxHeartbeats 3200000 in
theorem modify_ok {A : Option Addr} {c : Nat} {ks : List Int} {B : Option Addr} {d : Nat} {ws : List Int} (sz : Int) {A1 : Option Addr} {c1 : Nat} (l : List S30) {A0 : Option Addr} {c0 : Nat} {A3 : Option Addr} {c3 : Nat} (e : S30) (w : World) (ht : TabAt w A c ks B d ws)
    (hm : Kd.C k42 w A0 e.f0.length e.f0) (hm1 : e.f0.length ≤ c0) (ha : Kd.C k40 w A3 e.f3.length e.f3) (ha1 : e.f3.length ≤ c3) (hl : Kd.C k30 w A1 l.length l) (hl1 : l.length ≤ c1) (hs : small l) (hse : e.f0.length ≤ 1000000 ∧ e.f3.length ≤ 1000000) :
    Calls Try.prog 14 #[.agg #[.slice A ks.length c, .slice B ws.length d, .int .i64 sz], .slice A1 l.length c1, .agg #[.slice A0 e.f0.length c0, .int .i64 e.f1, .string e.f2, .slice A3 e.f3.length c3]] w fun r w' => ∃ v, r = .returned (.tuple #[v, .int .i64 (modP ks ws sz l e).2]) ∧ Ans w w' v (modP ks ws sz l e).1 ∧ Below w.heap.size w w' := by
  have hu25 := Try.underlying25
  have hu30 := Try.underlying30
  have h0 : IT [] w A c ks B d ws A0 A3 e A1 l w := ⟨⟨fun x hx => (by cases hx), ht, hm, ha, Below.refl _ _⟩, hl⟩
  have h2 := (h0.box (.cells #[.slice A ks.length c, .slice B ws.length d, .int .i64 sz] 25 (0,0))).box (.cells #[.slice A0 e.f0.length c0, .int .i64 e.f1, .string e.f2, .slice A3 e.f3.length c3] 30 (0,0))
  rw [show (w.alloc (.cells #[.slice A ks.length c, .slice B ws.length d, .int .i64 sz] 25 (0,0))).heap.size = w.heap.size + 1 by simp] at h2
  obtain ⟨bs, hbs⟩ : ∃ bs, bs = [(w.heap.size + 1, Obj.cells #[.slice A0 e.f0.length c0, .int .i64 e.f1, .string e.f2, .slice A3 e.f3.length c3] 30 (0,0)), (w.heap.size, Obj.cells #[.slice A ks.length c, .slice B ws.length d, .int .i64 sz] 25 (0,0))] := ⟨_, rfl⟩
  rw [← hbs] at h2
  have H2 := Aside0.mk h2
  have HBS := Aside0.mk (show ∀ W, Hold bs W → W.heap[w.heap.size + 1]? = some (.cells #[.slice A0 e.f0.length c0, .int .i64 e.f1, .string e.f2, .slice A3 e.f3.length c3] 30 (0,0)) ∧ W.heap[w.heap.size]? = some (.cells #[.slice A ks.length c, .slice B ws.length d, .int .i64 sz] 25 (0,0)) from fun W h => by
    rw [hbs] at h
    exact ⟨h.at1, h.tail.at1⟩)
  obtain ⟨cp, hcp⟩ : ∃ cp, cp = checkP ks ws sz e := ⟨_, rfl⟩
  obtain ⟨pl, hpl⟩ : ∃ pl, pl = placeE l e := ⟨_, rfl⟩
  have HCK := Aside0.mk (fun W (h : IT bs w A c ks B d ws A0 A3 e A1 l W) => check_any (c0 := c0) (c3 := c3) sz e W h.ct.tab h.ct.hm hm1 h.ct.ha ha1)
  have HFD := Aside0.mk (fun W (h : IT bs w A c ks B d ws A0 A3 e A1 l W) => find_any e A0 A3 c0 c3 A1 c1 l W h.ct.hm hm1 h.hl hl1)
  have HTS := Aside0.mk (fun W (hL : Kd.C k30 W A1 l.length l) => twins_any l (c := c1) W hL hs.1 hs.2)
  have HTW := Aside0.mk (fun W (hM : Kd.C k42 W A0 e.f0.length e.f0) (hA : Kd.C k40 W A3 e.f3.length e.f3) => twin_any e (c0 := c0) (c3 := c3) W hM hA hse.1 hse.2)
  have hll := hs.1
  have HPL := Aside0.mk (show pl = -1 ∨ ∃ k : Nat, pl = (k : Int) ∧ k < l.length from by
    rw [hpl]
    rcases fIdx_spec (oneB e) z30 l with ⟨h, _⟩ | ⟨k, h, h1, _⟩
    · exact .inl h
    · exact .inr ⟨k, h, h1⟩)
  have HC := Aside0.mk (show cp = 0 ∨ cp = 1 from by rw [hcp]; exact checkP_cases _ _ _ _)
  unfold modP
  rw [← hcp, ← hpl]
  rw [← hcp] at HCK
  rw [← hpl] at HFD
  clear h0 h2 ht hm ha hm1 ha1 hl hl1 hs hse hcp hpl hbs
  obtain ⟨em, ep, es, ea⟩ := e
  simp only at *
  obtain ⟨C, HF⟩ : ∃ C : World → Prop, Aside0 (∀ W, C W ↔ IT bs w A c ks B d ws A0 A3 ⟨em, ep, es, ea⟩ A1 l W) := ⟨_, ⟨fun W => Iff.rfl⟩⟩
  go_enter Try.func14, Try.ntmps14
  go_wp2_with fail
  have HC0 := Aside0.mk ((HF.out _).2 (H2.out.next (pw_below_drewN (Below.refl _ _) 1)))
  refine region_class C (by kernel_rfl) (by kernel_rfl) HC0.out ?_
  repeat
    (first
      | go_big_quiet_skip
      | (go_big_quiet_want; first
          | (go_big_quiet_op; go_big_quiet_on)
          | (unfold Oper.quiet; apply Exists.intro; refine ⟨fun W hW => ?_, ?_⟩
             · have hIT := (HF.out W).1 hW
               have hq := HBS.out W hIT.ct.hold
               have f0 := cellOf hq.1 0
               have f1 := cellOf hq.1 1
               have f2 := cellOf hq.1 2
               have f3 := cellOf hq.1 3
               have t0 := cellOf hq.2 0
               have t1 := cellOf hq.2 1
               have t2 := cellOf hq.2 2
               go_simp
               first
                 | with_reducible rfl
                 | (go_at_call 20; refine Calls.mono (HCK.out W hIT) ?_; rintro r w7 ⟨rfl, hb7⟩; exact ⟨rfl, (HF.out _).2 (hIT.next hb7)⟩)
                 | (go_at_call 21; refine Calls.mono (HFD.out W hIT) ?_; rintro r w7 ⟨rfl, hb7⟩; exact ⟨rfl, (HF.out _).2 (hIT.next hb7)⟩)
             go_simp
             go_big_quiet_on)))
  refine wpQuiet_nil ?_
  intro W' hW'
  have HE := Aside0.mk ((HF.out W').1 hW')
  clear hW' HF HC0
  rcases HC.out with rfl | rfl
  · rcases HPL.out with rfl | ⟨k, rfl, hk⟩
    · go_wp2
      go_ret2
      exact ⟨_, rfl, Ans.nil _ _, HE.out.ct.below⟩
    · have hk0 : decide ((k : Int) < 0) = false := decide_eq_false (by omega)
      have hk1 : ¬ ((k : Int) < 0) := by omega
      go_wp2_with fail
      refine Calls.mono (HTS.out _ HE.out.hl) ?_
      rintro r w5 ⟨v, us, rfl, ho, hE, hb⟩
      have hkl : (entsL l us).length = l.length * 4 := entsL_len hE.len
      have hcut := HE.out.ct.below.size
      have HLE := Aside0.mk hE.len
      have HEN := Aside0.mk (hE.base_ hcut)
      have H5 := Aside0.mk (HE.out.next hb)
      obtain ⟨g, cap, cur, rfl, hg1, hg2, hg3, hg4, hg5, hg6⟩ : ∃ g cap cur, v = .slice (some ⟨g, 0, none⟩) l.length cap ∧ W'.heap.size ≤ g ∧ w5.heap[g]? = some (.cells cur 30 (0, 0)) ∧ l.length ≤ cap ∧ cap ≤ maxLen ∧ cur.size = cap * 4 ∧ cur.toList.take (l.length * 4) = entsL l us := by
        rcases ho.2 with ⟨_, h0⟩ | ⟨g, cap, cur, h1, h2, h3, h4, h5, h6, h7⟩
        · omega
        · exact ⟨g, cap, cur, h1, h2, h3, h4, h5, h6, h7⟩
      have HGT := Aside0.mk (And.intro hg1 hg2)
      have HCP := Aside0.mk (And.intro hg3 (And.intro hg4 (And.intro hg5 hg6)))
      have hq := HBS.out w5 H5.out.ct.hold
      have f0 := cellOf hq.1 0
      have f1 := cellOf hq.1 1
      have f2 := cellOf hq.1 2
      have f3 := cellOf hq.1 3
      clear ho hE hb hg1 hg2 hg3 hg4 hg5 hg6 hkl hq
      go_wp2_with fail
      refine Calls.mono (HTW.out _ H5.out.ct.hm H5.out.ct.ha) ?_
      rintro r w6 ⟨u1, u2, rfl, hE, hb⟩
      have HSET := Aside0.mk (HEN.out.set hb hE H5.out.ct.below.size k hk)
      have hE1 := hE.m.form
      have hE2 := hE.a.form
      simp only at hE1 hE2
      obtain ⟨Am, cm, rfl, _⟩ := hE1
      obtain ⟨Aa, ca, rfl, _⟩ := hE2
      have hg6 := (hb.block g (Array.getElem?_eq_some_iff.1 HGT.out.2).1).trans HGT.out.2
      have HB6 := Aside0.mk (H5.out.next hb).ct.below
      have HW6 := Aside0.mk hb.size
      have hbx := heap_alloc_new w6 (.cells #[.slice Am em.length cm, .int .i64 ep, .string es, .slice Aa ea.length ca] 30 (0,0))
      have hgx := blk_box hg6 (.cells #[.slice Am em.length cm, .int .i64 ep, .string es, .slice Aa ea.length ca] 30 (0,0))
      clear hE hb f0 f1 f2 f3
      go_wp2_with fail
      have hgs : g < w6.heap.size := (Array.getElem?_eq_some_iff.1 hg6).1
      have hne : ¬ g = w6.heap.size := by omega
      have hne2 : ¬ w6.heap.size = g := by omega
      obtain ⟨V, hV⟩ : ∃ V, V = w6.alloc (.cells #[.slice Am em.length cm, .int .i64 ep, .string es, .slice Aa ea.length ca] 30 (0,0)) := ⟨_, rfl⟩
      have HV := Aside0.mk (show Below w6.heap.size w6 V from by rw [hV]; exact below_alloc (Below.refl _ _) _)
      rw [← hV] at hbx hgx ⊢
      obtain ⟨bx, hbx'⟩ : ∃ bx, bx = w6.heap.size := ⟨_, rfl⟩
      have HBXE := Aside0.mk hbx'
      rw [← hbx'] at hbx hne hne2 ⊢
      clear hV hbx'
      have hkk : (k : Int) < (l.length : Int) := by omega
      have hkk0 : (0 : Int) ≤ (k : Int) := by omega
      have hcs : l.length * 4 ≤ cur.size := by have := HCP.out; omega
      obtain ⟨z2, hz2⟩ : ∃ z, cur[k * 4 + 2]? = some z := ⟨_, Array.getElem?_eq_getElem (by omega)⟩
      obtain ⟨z3, hz3⟩ : ∃ z, cur[k * 4 + 3]? = some z := ⟨_, Array.getElem?_eq_getElem (by omega)⟩
      have cg2 : V.drew.cell? ⟨g, k * 4 + 2, none⟩ = some z2 := (cellOf (w := V.drew) hgx _).trans hz2
      have cg3 : V.drew.cell? ⟨g, k * 4 + 3, none⟩ = some z3 := (cellOf (w := V.drew) hgx _).trans hz3
      have fg2 : V.drew.frozen? ⟨g, k * 4 + 2, none⟩ = false := frozenOf (w := V.drew) hgx _
      have fg3 : V.drew.frozen? ⟨g, k * 4 + 3, none⟩ = false := frozenOf (w := V.drew) hgx _
      have cg2' : V.cell? ⟨g, k * 4 + 2, none⟩ = some z2 := (cellOf hgx _).trans hz2
      have cg3' : V.cell? ⟨g, k * 4 + 3, none⟩ = some z3 := (cellOf hgx _).trans hz3
      have fg2' : V.frozen? ⟨g, k * 4 + 2, none⟩ = false := frozenOf hgx _
      have fg3' : V.frozen? ⟨g, k * 4 + 3, none⟩ = false := frozenOf hgx _
      refine region_float (BoxIs bx (.cells #[.slice Am em.length cm, .int .i64 ep, .string es, .slice Aa ea.length ca] 30 (0,0))) 11 [.float 0, .float 1, .float 2, .float 3, .float 4, .float 5, .float 6, .float 7, .float 8, .float 9, .one 10] (by kernel_rfl) (by kernel_rfl) hbx ?_
      refine Pl.wp_float rfl rfl (.slice (some ⟨g, 0, none⟩) l.length cap) (fun U hU => by go_simp) (fun _ _ _ h => h) ?_
      (try go_simp)
      refine Pl.wp_float rfl rfl (.int .i64 (k : Int)) (fun U hU => by go_simp) (fun _ _ _ h => h) ?_
      (try go_simp)
      refine Pl.wp_float rfl rfl (.slice (some ⟨g, 0, none⟩) l.length cap) (fun U hU => by go_simp) (fun _ _ _ h => h) ?_
      (try go_simp)
      refine Pl.wp_float rfl rfl (.int .i64 (k : Int)) (fun U hU => by go_simp) (fun _ _ _ h => h) ?_
      (try go_simp)
      refine Pl.wp_float rfl rfl (.pointer (some ⟨bx, 2, none⟩)) (fun U hU => by go_simp) (fun _ _ _ h => h) ?_
      (try go_simp)
      refine Pl.wp_float rfl rfl (.string es) (fun U hU => by have f0 := cellOf hU 2; go_simp) (fun _ _ _ h => h) ?_
      (try go_simp)
      refine Pl.wp_float rfl rfl (.pointer (some ⟨bx, 3, none⟩)) (fun U hU => by go_simp) (fun _ _ _ h => h) ?_
      (try go_simp)
      refine Pl.wp_float rfl rfl (.slice Aa ea.length ca) (fun U hU => by have f0 := cellOf hU 3; go_simp) (fun _ _ _ h => h) ?_
      (try go_simp)
      refine Pl.wp_float rfl rfl (.pointer (some ⟨g, k * 4, none⟩)) (fun U hU => by go_simp) (fun _ _ _ h => h) ?_
      (try go_simp)
      refine Pl.wp_float rfl rfl (.pointer (some ⟨g, k * 4 + 2, none⟩)) (fun U hU => by go_simp) (fun _ _ _ h => h) ?_
      (try go_simp)
      refine Pl.wp_one rfl rfl ?_
      go_simp
      refine ⟨?_, ?_⟩
      · show (V.drew.setCell _ _).heap[bx]? = _
        rw [Below.heap_setCell _ _ _ _ hne2]
        exact hbx
      simp only [Pl.wp, List.drop]
      go_wp2_with fail
      have hblk := setCell_heap (setCell_heap hgx (k * 4 + 2) (.string es)) (k * 4 + 3) (.slice Aa ea.length ca)
      obtain ⟨h3, h4, h5, h6⟩ := HCP.out
      have hwg : w.heap.size ≤ g := Nat.le_trans hcut HGT.out.1
      have hX : ∀ q, q ≠ g → ((V.setCell ⟨g, k * 4 + 2, none⟩ (.string es)).setCell ⟨g, k * 4 + 3, none⟩ (.slice Aa ea.length ca)).drew.heap[q]? = V.heap[q]? := fun q hq => by
        show ((V.setCell ⟨g, k * 4 + 2, none⟩ (.string es)).setCell ⟨g, k * 4 + 3, none⟩ (.slice Aa ea.length ca)).heap[q]? = V.heap[q]?
        rw [Below.heap_setCell _ _ _ _ hq, Below.heap_setCell _ _ _ _ hq]
      have HENX := Aside0.mk ((HSET.out.keep HV.out).cut (W' := ((V.setCell ⟨g, k * 4 + 2, none⟩ (.string es)).setCell ⟨g, k * 4 + 3, none⟩ (.slice Aa ea.length ca)).drew) (fun q t cs hq ht => hX q (by rintro rfl; rw [hgx] at hq; injection hq with hq; injection hq with _ hq; subst hq; rcases ht with h | h <;> cases h)))
      have HBX := Aside0.mk (show Below w.heap.size w ((V.setCell ⟨g, k * 4 + 2, none⟩ (.string es)).setCell ⟨g, k * 4 + 3, none⟩ (.slice Aa ea.length ca)).drew from
        (((HB6.out.trans (HV.out.mono HB6.out.size)).setCell hwg _).setCell hwg _).drew)
      have HROW := Aside0.mk (show CRow ((V.setCell ⟨g, k * 4 + 2, none⟩ (.string es)).setCell ⟨g, k * 4 + 3, none⟩ (.slice Aa ea.length ca)).drew w.heap.size 30 4 (.slice (some ⟨g, 0, none⟩) l.length cap) l.length (entsL (l.set k (actE (l.getD k z30) ⟨em, ep, es, ea⟩)) (us.set k ((us.getD k zEV).1, .slice Aa ea.length ca))) from by
        rw [← entsL_set l us HLE.out k hk ⟨em, ep, es, ea⟩]
        refine ⟨by simp [entsL_len HLE.out], .inr ⟨g, cap, _, rfl, hwg, hblk, h3, h4, by simp [h5], ?_⟩⟩
        rw [← h6]
        simp [List.take_set])
      clear hblk h3 h4 h5 h6 hX
      refine Calls.mono (clipE_row _ HROW.out) ?_
      rintro r w7 ⟨v2, rfl, hr2, _, rfl⟩
      go_wp2
      go_ret2
      have hget : l.getD k z30 = l[k] := by
        rw [List.getD_eq_getElem?_getD, List.getElem?_eq_getElem hk]
        rfl
      rw [hget] at hr2
      have hex := HENX.out
      rw [hget] at hex
      refine ⟨v2, by first | rfl | simp, ⟨us.set k ((us.getD k zEV).1, .slice Aa ea.length ca), ?_, hex⟩, HBX.out⟩
      rw [List.length_set]
      exact hr2
  · go_wp2
    go_ret2
    exact ⟨_, rfl, Ans.nil _ _, HE.out.ct.below⟩
end Go.Proofs.Ytdfmeclhpefmfaa.Own

/- Find. -/
set_option linter.unusedVariables false
set_option linter.unusedSimpArgs false
set_option maxRecDepth 100000
namespace Go.Proofs.Ytdfmeclhpefmfaa.Own
open Go.RowKit Go.Shelf Go.Proofs.Ytdfmeclhpefmfaa.K YtdfmeclhpefmfaaW.PrintWords YtdfmeclhpefmfaaW.PrintLast YtdfmeclhpefmfaaW.PrintMore
attribute [local go_sem] Oper.semAt_some

theorem hits_any (T : Option Addr) (n tc : Nat) (T2 : Option Addr) (m td : Nat) (sz : Int) (A : Option Addr) (k c : Nat) (K : Option Addr) (j kc : Nat) (w : World) :
    Calls Try.prog 30 #[.agg #[.slice T n tc, .slice T2 m td, .int .i64 sz], .slice A k c, .slice K j kc] w fun e w' => e = .returned (.func (.func 53) #[] #[.pointer (some ⟨w.heap.size + 1, 0, none⟩), .pointer (some ⟨w.heap.size + 1 + 1, 0, none⟩), .pointer (some ⟨w.heap.size, 0, none⟩)]) ∧
      w' = ((w.alloc (.cells #[.slice T n tc, .slice T2 m td, .int .i64 sz] 25 (0,0))).alloc (.cells #[.slice A k c] 26 (0,0))).alloc (.cells #[.slice K j kc] 28 (0,0)) := by
  have hmf : ∀ (fn : Fn) (first cap : Array Value) (w : World), (Instr.makeFunc fn first cap).run Try.prog w = .ok (.func fn first cap) w := fun _ _ _ _ => rfl
  go_enter Try.func30, Try.ntmps30
  go_wp2
  go_ret
  exact ⟨rfl, rfl⟩
/-- A weight of an entry. -/
def wtE (ks : List Int) (x : S30) : Int := if weighsB ks then x.f1 else if kIdx ks 2 ≥ 0 then (x.f0.getD (kIdx ks 2).toNat z42).f2 else 0
def stepB (ks : List Int) (l : List S30) (s : Int × Int) (i : Nat) : Int × Int := if s.1 < 0 ∨ wtE ks (l.getD i z30) > s.2 then ((i : Int), wtE ks (l.getD i z30)) else s
def bestB (ks : List Int) (l : List S30) (is_ : List Nat) : Int × Int := is_.foldl (stepB ks l) (-1, 0)
theorem bestB_snoc (ks : List Int) (l : List S30) (is_ : List Nat) (i : Nat) : bestB ks l (is_ ++ [i]) = stepB ks l (bestB ks l is_) i := by
  unfold bestB
  rw [List.foldl_append]
  rfl
/-- What Find tells. -/
def findP (ks ws : List Int) (sz : Int) (l : List S30) (keys : List S40) : Int :=
  if tmayB ks ws sz && fitsB keys ws then (bestB ks l (hitsTo ks keys l l.length)).1 else -1

theorem hits_seq (F : Nat → Prop) (bl bk bt : Nat) (A : Option Addr) (c : Nat) (l : List S30) (K : Option Addr) (kc : Nat) (keys : List S40) (T : Option Addr) (tc : Nat) (ks : List Int) (T2 : Option Addr) (td : Nat) (ws : List Int) (sz : Int) (w V : World)
    (hl : Kd.C k30 w A l.length l) (hkeys : Kd.C k40 w K keys.length keys) (ht : Kd.C (Kd.int .u8) w T ks.length ks) (hlen : keys.length = ks.length) (hkd : ∀ j, j < ks.length → badK (ks.getD j 0) = false)
    (hFl : ¬ F bl) (hFk : ¬ F bk) (hFt : ¬ F bt) (hB : Below w.heap.size w V) (hFW : ∀ k, F k → k < V.heap.size)
    (hbl : V.heap[bl]? = some (.cells #[.slice A l.length c] 26 (0,0))) (hbk : V.heap[bk]? = some (.cells #[.slice K keys.length kc] 28 (0,0))) (hbt : V.heap[bt]? = some (.cells #[.slice T ks.length tc, .slice T2 ws.length td, .int .i64 sz] 25 (0,0))) :
    SeqK Fence.wide 2 Try.prog 53 #[.pointer (some ⟨bl, 0, none⟩), .pointer (some ⟨bk, 0, none⟩), .pointer (some ⟨bt, 0, none⟩)] (fun x : Nat => #[.int .i64 (x : Nat), .agg (ecOf w A x)]) (Kq F w.heap.size) (hitsTo ks keys l l.length) V := by
  intro lb J W hW hJ hY h0
  have hb2 : ∀ {g : Nat} {o : Obj}, V.heap[g]? = some o → W.heap[g]? = some o := fun h => (hW.block _ (Array.getElem?_eq_some_iff.1 h).1).trans h
  exact hits1_in F lb bl bk bt A c l K kc keys T tc ks T2 td ws sz w hl hkeys ht hlen hkd hFl hFk hFt J W (hB.trans (hW.mono hB.size)) (fun k hk => Nat.lt_of_lt_of_le (hFW k hk) hW.size) hJ hY (hb2 hbl) (hb2 hbk) (hb2 hbt) h0
theorem Hold.box {bs : List (Nat × Obj)} {W : World} (h : Hold bs W) (o : Obj) : Hold ((W.heap.size, o) :: bs) (W.alloc o) := (h.next (below_alloc (Below.refl _ _) o)).cons (heap_alloc_new W o)
/-- What Find's loop holds. -/
def FI (ks : List Int) (l : List S30) (F : Nat → Prop) (n0 : Nat) (V : World) (g9 g10 : Nat) (pre : List Nat) (W : World) : Prop :=
  W.heap[g9]? = some (.cells #[.int .i64 (bestB ks l pre).1] 3 (0,0)) ∧ W.heap[g10]? = some (.cells #[.int .i64 (bestB ks l pre).2] 3 (0,0)) ∧ Kq F n0 V W
theorem cells_grown {W W' : World} {row : Option Nat} {B k : Nat} {cs : Array Value} {t : TypeId} {fr : Nat × Nat} (hg : W.grownBy W' row) (hr : ∀ r, row = some r → B ≤ r ∧ ∃ o : Obj, W.heap[r]? = some o ∧ o.isCells = false) (h : W.heap[k]? = some (.cells cs t fr)) : W'.heap[k]? = some (.cells cs t fr) :=
  (hg.block k (Array.getElem?_eq_some_iff.1 h).1 (fun e => by
    obtain ⟨_, o, ho, hc⟩ := hr k e.symm
    rw [h] at ho
    injection ho with ho
    subst ho
    cases hc)).trans h
theorem Kq.grown {F : Nat → Prop} {n0 B : Nat} {V W W' : World} {row : Option Nat} (h : Kq F n0 V W) (hn : n0 ≤ B) (hV : n0 ≤ V.heap.size) (hg : W.grownBy W' row) (hr : ∀ r, row = some r → B ≤ r ∧ ∃ o : Obj, W.heap[r]? = some o ∧ o.isCells = false) : Kq F n0 V W' :=
  ⟨⟨hg.os.trans h.k.os, hg.tape.trans h.k.tape, hg.output.trans h.k.output, Nat.le_trans h.k.size hg.size, fun k cs t fr hk hF => cells_grown hg hr (h.k.block k cs t fr hk hF)⟩, h.b.grown hg (Nat.le_trans hV h.b.size) (fun r e => Nat.le_trans hn (hr r e).1)⟩
theorem FI.own {ks : List Int} {l : List S30} {F : Nat → Prop} {n0 : Nat} {V : World} {g9 g10 : Nat} (hn : n0 ≤ V.heap.size) : OwnFrom V.heap.size (FI ks l F n0 V g9 g10) := by
  rintro s W W' row ⟨h1, h2, h3⟩ hg hr
  exact ⟨cells_grown hg hr h1, cells_grown hg hr h2, h3.grown hn hn hg hr⟩

theorem hitsTo_mem (ks : List Int) (keys : List S40) (l : List S30) (k i : Nat) (h : i ∈ hitsTo ks keys l k) : i < k ∧ hitsE ks keys (l.getD i z30) = true := by
  unfold hitsTo at h
  rw [List.mem_filter, List.mem_range] at h
  exact h
theorem pre_mem {pre : List Nat} {x : Nat} {xs : List Nat} (h : (pre ++ [x]) <+: xs) : x ∈ xs := h.subset (by simp)
/-- The slots of a round. -/
def mkA (cs : Array Value) (a : Act) (b x : Nat) : Act := { tmps := (((a.tmps.setIfInBounds 32 (.int .i64 x)).setIfInBounds 33 (.agg cs)).setIfInBounds 11 (.int .i64 x)).setIfInBounds 12 (.pointer (some ⟨b, 0, none⟩)), defers := [] }
set_option maxHeartbeats 4000000 in
theorem find_ok {A : Option Addr} {c : Nat} {ks : List Int} {B : Option Addr} {d : Nat} {ws : List Int} (sz : Int) {A1 : Option Addr} {c1 : Nat} (l : List S30) {K : Option Addr} {kc : Nat} (keys : List S40) (w : World) (ht : TabAt w A c ks B d ws)
    (hl : Kd.C k30 w A1 l.length l) (hl1 : l.length ≤ c1) (hk : Kd.C k40 w K keys.length keys) (hk1 : keys.length ≤ kc) :
    Calls Try.prog 11 #[.agg #[.slice A ks.length c, .slice B ws.length d, .int .i64 sz], .slice A1 l.length c1, .slice K keys.length kc] w fun r w' => r = .returned (.int .i64 (findP ks ws sz l keys)) ∧ Below w.heap.size w w' := by
  have hu25 := Try.underlying25
  have hu30 := Try.underlying30
  have hu42 := Try.underlying42
  have hu40 := Try.underlying40
  obtain ⟨rv, hrv⟩ : ∃ rv, rv = findP ks ws sz l keys := ⟨_, rfl⟩
  rw [← hrv]
  have HRV := Aside0.mk hrv
  have HT := Aside0.mk ht
  have HL := Aside0.mk hl
  have HK := Aside0.mk hk
  have hb1 := below_alloc (Below.refl w.heap.size w) (.cells #[.slice A ks.length c, .slice B ws.length d, .int .i64 sz] 25 (0,0))
  have HB1 := Aside0.mk (And.intro hb1 (heap_alloc_new w (.cells #[.slice A ks.length c, .slice B ws.length d, .int .i64 sz] 25 (0,0))))
  have HM := Aside0.mk (may_any sz _ (ht.below hb1))
  have HFT := Aside0.mk (fun W (hW : Below w.heap.size w W) => fits_any keys ws K kc B d W (Kd.C_below hk hW) (Kd.C_below ht.hw hW))
  refine (callsIn_wide (n := 3)).1 ?_
  refine callsIn_of_wp_marks Try.func11 rfl trivial ?_ rfl
  simp only [Try.ntmps11, List.size_toArray, List.length_cons, List.length_nil, Nat.reduceAdd, Nat.reduceSub, Array.replicate_succ, Array.replicate_zero, List.push_toArray, List.append_toArray, List.nil_append, List.cons_append]
  refine wpIn_wide.2 ?_
  obtain ⟨r1, hr1⟩ : ∃ r, r = tmayB ks ws sz := ⟨_, rfl⟩
  obtain ⟨r2, hr2⟩ : ∃ r, r = fitsB keys ws := ⟨_, rfl⟩
  have HR1 := Aside0.mk hr1
  have HR2 := Aside0.mk hr2
  rw [← hr1] at HM
  rw [← hr2] at HFT
  clear ht hl hk hrv hb1 hr1 hr2
  cases r1 with
  | false =>
    go_wp2_with fail
    refine Calls.mono HM.out ?_
    rintro e w2 ⟨rfl, hb⟩
    have hB := HB1.out.1.trans (hb.mono HB1.out.1.size)
    clear hb
    go_wp2
    refine ⟨_, results_tmp rfl _ _ _, ?_⟩
    exact ⟨by rw [HRV.out]; unfold findP; rw [← HR1.out]; rfl, hB⟩
  | true =>
    go_wp2_with fail
    refine Calls.mono HM.out ?_
    rintro e w2 ⟨rfl, hb⟩
    have h2 := (hb.block w.heap.size (by simp)).trans HB1.out.2
    have HB2 := Aside0.mk (And.intro (HB1.out.1.trans (hb.mono HB1.out.1.size)) h2)
    have t1 := cellOf h2 1
    clear h2 hb
    cases r2 with
    | false =>
      go_wp2_with fail
      refine Calls.mono (HFT.out _ HB2.out.1) ?_
      rintro e w3 ⟨rfl, hb⟩
      have hB := HB2.out.1.trans (hb.mono HB2.out.1.size)
      clear hb
      go_wp2
      refine ⟨_, results_tmp rfl _ _ _, ?_⟩
      exact ⟨by rw [HRV.out]; unfold findP; rw [← HR1.out, ← HR2.out]; rfl, hB⟩
    | true =>
      go_wp2_with fail
      refine Calls.mono (HFT.out _ HB2.out.1) ?_
      rintro e w3 ⟨rfl, hb⟩
      have h3 := (hb.block w.heap.size (Array.getElem?_eq_some_iff.1 HB2.out.2).1).trans HB2.out.2
      have HB3 := Aside0.mk (And.intro (HB2.out.1.trans (hb.mono HB2.out.1.size)) h3)
      have t0 := cellOf h3 0
      have HIX := Aside0.mk (index_any (A := A) (c := c) ks 2 w3 (Kd.C_below HT.out.hk HB3.out.1) HT.out.hc)
      clear h3 hb t1
      go_wp2_with fail
      refine Calls.mono HIX.out ?_
      rintro e w4 ⟨rfl, q4, rfl⟩
      obtain ⟨w4, hw4⟩ : ∃ w4, w4 = w3.drewN q4 := ⟨_, rfl⟩
      rw [← hw4]
      have HB4 := Aside0.mk (show Below w.heap.size w w4 ∧ w4.heap[w.heap.size]? = some (.cells #[.slice A ks.length c, .slice B ws.length d, .int .i64 sz] 25 (0,0)) from by
        have hd := pw_below_drewN (Below.refl w3.heap.size w3) q4
        rw [hw4]
        exact ⟨HB3.out.1.trans (hd.mono HB3.out.1.size), HB3.out.2⟩)
      generalize hpx : kIdx ks 2 = px at *
      have HPX := Aside0.mk hpx
      clear hpx
      obtain ⟨s, hs⟩ : ∃ s, s = w4.heap.size := ⟨_, rfl⟩
      have hh0 : Hold [(w.heap.size, .cells #[.slice A ks.length c, .slice B ws.length d, .int .i64 sz] 25 (0,0))] w4 := fun x hx => by
        rw [List.mem_singleton.1 hx]
        exact HB4.out.2
      have hh3 := ((hh0.box (.cells #[.int .i64 px] 3 (0,0))).box (.cells #[.int .i64 (-1)] 3 (0,0))).box (.cells #[.int .i64 0] 3 (0,0))
      rw [show (w4.alloc (.cells #[.int .i64 px] 3 (0,0))).heap.size = w4.heap.size + 1 by simp, show ((w4.alloc (.cells #[.int .i64 px] 3 (0,0))).alloc (.cells #[.int .i64 (-1)] 3 (0,0))).heap.size = w4.heap.size + 1 + 1 by simp, ← hs] at hh3
      have hb3 := below_alloc (below_alloc (below_alloc (Below.refl w4.heap.size w4) (.cells #[.int .i64 px] 3 (0,0))) (.cells #[.int .i64 (-1)] 3 (0,0))) (.cells #[.int .i64 0] 3 (0,0))
      have hs3 : (((w4.alloc (.cells #[.int .i64 px] 3 (0,0))).alloc (.cells #[.int .i64 (-1)] 3 (0,0))).alloc (.cells #[.int .i64 0] 3 (0,0))).heap.size = s + 3 := by rw [hs]; simp
      obtain ⟨V3, hV3⟩ : ∃ V, V = ((w4.alloc (.cells #[.int .i64 px] 3 (0,0))).alloc (.cells #[.int .i64 (-1)] 3 (0,0))).alloc (.cells #[.int .i64 0] 3 (0,0)) := ⟨_, rfl⟩
      rw [← hV3] at hh3 hb3 hs3
      have t0' := cellOf hh3.tail.tail.tail.at1 0
      have t1' := cellOf hh3.tail.tail.tail.at1 1
      have t2' := cellOf hh3.tail.tail.tail.at1 2
      have HH := Aside0.mk (And.intro hh3 (And.intro (HB4.out.1.trans (hb3.mono HB4.out.1.size)) hs3))
      have HHT := Aside0.mk (hits_any A ks.length c B ws.length d sz A1 l.length c1 K keys.length kc V3)
      have HS := Aside0.mk hs
      clear hw4 t0 hh0 hh3 hb3 hs3
      go_upto_region 6 with fail
      rw [← hV3, ← HS.out]
      clear hV3 hs
      go_wp2_with fail
      refine Calls.mono HHT.out ?_
      rintro e w5 ⟨rfl, hw5⟩
      have hs3 := HH.out.2.2
      have HV := Aside0.mk (show Hold [(s + 1 + 1, .cells #[.int .i64 0] 3 (0,0)), (s + 1, .cells #[.int .i64 (-1)] 3 (0,0)), (s, .cells #[.int .i64 px] 3 (0,0)), (w.heap.size, .cells #[.slice A ks.length c, .slice B ws.length d, .int .i64 sz] 25 (0,0))] w5 ∧ Below w.heap.size w w5 ∧
        w5.heap[s + 3]? = some (.cells #[.slice A ks.length c, .slice B ws.length d, .int .i64 sz] 25 (0,0)) ∧ w5.heap[s + 4]? = some (.cells #[.slice A1 l.length c1] 26 (0,0)) ∧ w5.heap[s + 5]? = some (.cells #[.slice K keys.length kc] 28 (0,0)) ∧ w5.heap.size = s + 6 from by
        have hb := below_alloc (below_alloc (below_alloc (Below.refl V3.heap.size V3) (.cells #[.slice A ks.length c, .slice B ws.length d, .int .i64 sz] 25 (0,0))) (.cells #[.slice A1 l.length c1] 26 (0,0))) (.cells #[.slice K keys.length kc] 28 (0,0))
        rw [← hw5] at hb
        refine ⟨HH.out.1.next hb, HH.out.2.1.trans (hb.mono HH.out.2.1.size), ?_, ?_, ?_, ?_⟩
        · rw [hw5, ← hs3]
          exact Blk.two (heap_alloc_new V3 _) _ _
        · rw [hw5]
          exact Blk.one (heap_new_at (by simp [hs3]) _) _
        · rw [hw5]
          exact heap_new_at (by simp [hs3]) _
        · rw [hw5]
          simp [hs3])
      rw [hs3, show s + 3 + 1 = s + 4 by omega, show s + 3 + 1 + 1 = s + 5 by omega]
      clear hs3 hw5 HHT t0' t1' t2'
      go_wp2_with fail
      have HSIZ := Aside0.mk (show w.heap.size ≤ s ∧ w.heap.size < s from by
        have h1 := (Array.getElem?_eq_some_iff.1 HB4.out.2).1
        have h2 := HS.out
        omega)
      have HKL := Aside0.mk (show keys.length = ks.length ∧ (∀ j, j < ks.length → badK (ks.getD j 0) = false) from by
        have h1 := HR1.out.symm
        simp only [tmayB, Bool.and_eq_true, Bool.not_eq_true', decide_eq_true_eq, beq_iff_eq] at h1
        exact ⟨((fitsB_iff keys ws).1 HR2.out.symm).1.trans h1.2.1.symm, fun j hj => any_get _ 0 ks h1.2.2.2.2.1 j hj⟩)
      have hsz5 := HV.out.2.2.2.2.2
      refine (wpIn_wide (n := 3)).1 ?_
      refine range_al rfl (by decide) (gf := 53) (lb := #[.pointer (some ⟨s + 4, 0, none⟩), .pointer (some ⟨s + 5, 0, none⟩), .pointer (some ⟨s + 3, 0, none⟩)]) rfl trivial (enters_of Try.func53 (by kernel_rfl) rfl)
        (hits_seq (fun b => b = s + 1 ∨ b = s + 1 + 1) (s + 4) (s + 5) (s + 3) A1 c1 l K kc keys A c ks B d ws sz w w5 HL.out HK.out HT.out.hk HKL.out.1 HKL.out.2 (by omega) (by omega) (by omega) HV.out.2.1 (by intro k hk; omega) HV.out.2.2.2.1 HV.out.2.2.2.2.1 HV.out.2.2.1)
        Kq.trans (kq_b _ _ _ HV.out.2.1.size) (fun _ => rfl)
        (FI ks l (fun b => b = s + 1 ∨ b = s + 1 + 1) w.heap.size w5 (s + 1) (s + 1 + 1)) (FI.own HV.out.2.1.size)
        (fun a pre x a1 W => FI ks l (fun b => b = s + 1 ∨ b = s + 1 + 1) w.heap.size w5 (s + 1) (s + 1 + 1) pre W ∧ ∃ b, w5.heap.size ≤ b ∧ W.heap[b]? = some (.cells (ecOf w A1 x) 30 (0,0)) ∧ a1 = mkA (ecOf w A1 x) a b x)
        ?own ⟨HV.out.1.tail.at1, HV.out.1.at1, Kq.refl _ _ _⟩ ?assign ?body ?done
      case own =>
        rintro pre x a1 u W W' row ⟨h1, b, h2, h3, h4⟩ hg hr
        exact ⟨FI.own HV.out.2.1.size _ _ _ _ h1 hg hr, b, h2, cells_grown hg hr h3, h4⟩
      case assign =>
        clear hsz5
        intro lq pre x W hI hpre
        have hx := hitsTo_mem _ _ _ _ _ (pre_mem hpre)
        have HX := Aside0.mk hI
        obtain ⟨ad, A0, c0, A3, c3, rfl, heq, _⟩ := ec_at HL.out (Below.refl _ _) x hx.1
        rw [heq]
        generalize l.getD x z30 = y at *
        obtain ⟨ym, yp, ys, ya⟩ := y
        simp only at heq ⊢
        have HWS := Aside0.mk (Nat.le_trans HV.out.2.1.size hI.2.2.b.size)
        have HWS2 := Aside0.mk hI.2.2.k.size
        clear hI
        gi_wp2
        exact ⟨KeepsOthers.alloc _ _, Kq.ofBelow (below_alloc (Below.refl _ _) _) HWS.out, (FI.own HV.out.2.1.size).alloc _ HX.out, W.heap.size, HWS2.out, heap_alloc_new _ _, rfl⟩
      case body =>
        clear hsz5
        rintro lq pre x a1 W ⟨hI, b, hb1, hb2, rfl⟩ hpre
        have hx := hitsTo_mem _ _ _ _ _ (pre_mem hpre)
        have HX := Aside0.mk hI
        obtain ⟨ad, A0, c0, A3, c3, rfl, heq, _, _, _, _, l0, r0⟩ := ec_at HL.out (HV.out.2.1.trans hI.2.2.b) x hx.1
        rw [heq] at hb2 ⊢
        have HHIT := Aside0.mk hx
        generalize hxy : l.getD x z30 = y at *
        have HXY := Aside0.mk hxy
        clear hxy
        obtain ⟨ym, yp, ys, ya⟩ := y
        simp only at heq hb2 l0 r0 ⊢
        have hbt := hI.2.2.k.block _ _ _ _ HV.out.1.tail.tail.tail.at1 (by have := HSIZ.out; omega)
        have hb8 := hI.2.2.k.block _ _ _ _ HV.out.1.tail.tail.at1 (by omega)
        have HBS := Aside0.mk (And.intro hbt (And.intro hb8 (And.intro hI.1 hI.2.1)))
        have HYB := Aside0.mk (And.intro hb1 hb2)
        have HWS := Aside0.mk (And.intro (Nat.le_trans HV.out.2.1.size hI.2.2.b.size) (HV.out.2.1.trans hI.2.2.b))
        have HRM := Aside0.mk (And.intro l0 r0)
        have t0 := cellOf hbt 0
        have t1 := cellOf hbt 1
        have t2 := cellOf hbt 2
        clear hI hbt hb8 hb1 hb2 heq l0 r0
        simp only [mkA]
        gi_wp2_with fail
        refine ⟨trivial, ?_⟩
        refine CallsIn.mono (CallsIn.inRound lq (callsIn_wide.2 (weighs_any sz W (HT.out.below HWS.out.2)))) ?_
        rintro e w6 ⟨rfl, hb⟩
        have hA := HX.out
        have HB6 := Aside0.mk (show Below W.heap.size W w6 ∧ w6.heap[s]? = some (.cells #[.int .i64 px] 3 (0,0)) ∧ w6.heap[s + 1]? = some (.cells #[.int .i64 (bestB ks l pre).1] 3 (0,0)) ∧ w6.heap[s + 1 + 1]? = some (.cells #[.int .i64 (bestB ks l pre).2] 3 (0,0)) ∧ w6.heap[b]? = some (.cells #[.slice A0 ym.length c0, .int .i64 yp, .string ys, .slice A3 ya.length c3] 30 (0,0)) from
          ⟨hb, (hb.block _ (Array.getElem?_eq_some_iff.1 HBS.out.2.1).1).trans HBS.out.2.1, (hb.block _ (Array.getElem?_eq_some_iff.1 HBS.out.2.2.1).1).trans HBS.out.2.2.1, (hb.block _ (Array.getElem?_eq_some_iff.1 HBS.out.2.2.2).1).trans HBS.out.2.2.2, (hb.block _ (Array.getElem?_eq_some_iff.1 HYB.out.2).1).trans HYB.out.2⟩)
        have HKO := Aside0.mk (KeepsOthers.of_grownBy (grown_of_below hb) (fun j o e => by cases e))
        have HM6 := Aside0.mk (Kd.C_below HRM.out.2 hb)
        obtain ⟨bw, hbw⟩ : ∃ bw, bw = bestB ks l pre := ⟨_, rfl⟩
        rw [← hbw] at HB6
        obtain ⟨bb, ww⟩ := bw
        have HBW := Aside0.mk hbw
        simp only at HB6
        have e0 := cellOf HB6.out.2.2.2.2 0
        have e1 := cellOf HB6.out.2.2.2.2 1
        have p8 := cellOf HB6.out.2.1 0
        have p9 := cellOf HB6.out.2.2.1 0
        have p10 := cellOf HB6.out.2.2.2.1 0
        have f9 := frozenOf HB6.out.2.2.1 0
        have f10 := frozenOf HB6.out.2.2.2.1 0
        have ns1 : ¬ s + 1 = s + 1 + 1 := by omega
        have ns2 : ¬ s + 1 + 1 = s + 1 := by omega
        clear hA hb hbw t0 t1 t2
        cases hwg : weighsB ks with
        | true =>
          have HWT := Aside0.mk (show wtE ks ⟨ym, yp, ys, ya⟩ = yp from by unfold wtE; rw [hwg]; rfl)
          clear hwg
          have HST := Aside0.mk (show stepB ks l (bb, ww) x = if bb < 0 ∨ yp > ww then ((x : Int), yp) else (bb, ww) from by
            unfold stepB
            rw [HXY.out, HWT.out])
          by_cases h1 : bb < 0
          · have q1 : decide (bb < 0) = true := decide_eq_true h1
            gi_wp2
            have hk1 : Kq (fun b => b = s + 1 ∨ b = s + 1 + 1) w.heap.size W ((w6.setCell ⟨s + 1, 0, none⟩ (.int .i64 x)).setCell ⟨s + 1 + 1, 0, none⟩ (.int .i64 yp)) :=
              (Kq.ofBelow HB6.out.1 HWS.out.1).trans ((Kq.setCell w6 (p := ⟨s + 1, 0, none⟩) (.inl rfl) (by have := HSIZ.out; show w.heap.size ≤ s + 1; omega) _).trans (Kq.setCell _ (p := ⟨s + 1 + 1, 0, none⟩) (.inr rfl) (by have := HSIZ.out; show w.heap.size ≤ s + 1 + 1; omega) _))
            refine ⟨(HKO.out.trans (KeepsOthers.setCell _ _ _)).trans (KeepsOthers.setCell _ _ _), hk1, ?_, ?_, HX.out.2.2.trans hk1⟩
            · rw [bestB_snoc, ← HBW.out, HST.out, if_pos (by omega), Below.heap_setCell _ _ _ _ (by show s + 1 ≠ s + 1 + 1; omega)]
              exact setCell_heap HB6.out.2.2.1 0 _
            · rw [bestB_snoc, ← HBW.out, HST.out, if_pos (by omega)]
              refine setCell_heap (cs := #[.int .i64 ww]) ?_ 0 _
              rw [Below.heap_setCell _ _ _ _ (by show s + 1 + 1 ≠ s + 1; omega)]
              exact HB6.out.2.2.2.1
          · have q1 : decide (bb < 0) = false := decide_eq_false h1
            by_cases h2 : yp > ww
            · have q2 : decide (yp > ww) = true := decide_eq_true h2
              gi_wp2
              have hk1 : Kq (fun b => b = s + 1 ∨ b = s + 1 + 1) w.heap.size W ((w6.setCell ⟨s + 1, 0, none⟩ (.int .i64 x)).setCell ⟨s + 1 + 1, 0, none⟩ (.int .i64 yp)) :=
                (Kq.ofBelow HB6.out.1 HWS.out.1).trans ((Kq.setCell w6 (p := ⟨s + 1, 0, none⟩) (.inl rfl) (by have := HSIZ.out; show w.heap.size ≤ s + 1; omega) _).trans (Kq.setCell _ (p := ⟨s + 1 + 1, 0, none⟩) (.inr rfl) (by have := HSIZ.out; show w.heap.size ≤ s + 1 + 1; omega) _))
              refine ⟨(HKO.out.trans (KeepsOthers.setCell _ _ _)).trans (KeepsOthers.setCell _ _ _), hk1, ?_, ?_, HX.out.2.2.trans hk1⟩
              · rw [bestB_snoc, ← HBW.out, HST.out, if_pos (by omega), Below.heap_setCell _ _ _ _ (by show s + 1 ≠ s + 1 + 1; omega)]
                exact setCell_heap HB6.out.2.2.1 0 _
              · rw [bestB_snoc, ← HBW.out, HST.out, if_pos (by omega)]
                refine setCell_heap (cs := #[.int .i64 ww]) ?_ 0 _
                rw [Below.heap_setCell _ _ _ _ (by show s + 1 + 1 ≠ s + 1; omega)]
                exact HB6.out.2.2.2.1
            · have q2 : decide (yp > ww) = false := decide_eq_false h2
              gi_wp2
              refine ⟨HKO.out, Kq.ofBelow HB6.out.1 HWS.out.1, ?_, ?_, HX.out.2.2.trans (Kq.ofBelow HB6.out.1 HWS.out.1)⟩
              · rw [bestB_snoc, ← HBW.out, HST.out, if_neg (by omega)]
                exact HB6.out.2.2.1
              · rw [bestB_snoc, ← HBW.out, HST.out, if_neg (by omega)]
                exact HB6.out.2.2.2.1
        | false =>
          by_cases hp : px ≥ 0
          · have hp1 : decide (px ≥ 0) = true := decide_eq_true hp
            obtain ⟨pn, hpn, hpl⟩ : ∃ pn : Nat, px = (pn : Int) ∧ pn < ym.length := by
              rcases fIdx_spec (fun x => decide ((2 : Int) = x)) 0 ks with ⟨h, _⟩ | ⟨k, h, hk, _⟩
              · have : kIdx ks 2 = -1 := h
                have := HPX.out
                omega
              · have h2 : kIdx ks 2 = (k : Int) := h
                refine ⟨k, by rw [← HPX.out, h2], ?_⟩
                have h3 := HHIT.out.2
                simp only [hitsE, Bool.and_eq_true, beq_iff_eq] at h3
                rw [h3.1, HKL.out.1]
                exact hk
            obtain ⟨am, rfl, _, _, _, _, _, _, y6⟩ := at_T42 HM6.out (pn : Int) (by omega) (by omega)
            rw [Int.toNat_natCast] at y6
            simp only [rd_T42, Int.toNat_natCast] at y6
            have HWT := Aside0.mk (show wtE ks ⟨ym, yp, ys, ya⟩ = (ym.getD pn z42).f2 from by
              unfold wtE
              rw [hwg, HPX.out, hpn]
              simp [hpn ▸ hp])
            clear hwg
            subst hpn
            generalize (ym.getD pn z42).f2 = wt at *
            have j0 : (0 : Int) ≤ (pn : Int) := by omega
            have j1 : (pn : Int) < (ym.length : Int) := by omega
            have HST := Aside0.mk (show stepB ks l (bb, ww) x = if bb < 0 ∨ wt > ww then ((x : Int), wt) else (bb, ww) from by
              unfold stepB
              rw [HXY.out, HWT.out])
            by_cases h1 : bb < 0
            · have q1 : decide (bb < 0) = true := decide_eq_true h1
              gi_wp2
              have hk1 : Kq (fun b => b = s + 1 ∨ b = s + 1 + 1) w.heap.size W ((w6.setCell ⟨s + 1, 0, none⟩ (.int .i64 x)).setCell ⟨s + 1 + 1, 0, none⟩ (.int .i64 wt)) :=
                (Kq.ofBelow HB6.out.1 HWS.out.1).trans ((Kq.setCell w6 (p := ⟨s + 1, 0, none⟩) (.inl rfl) (by have := HSIZ.out; show w.heap.size ≤ s + 1; omega) _).trans (Kq.setCell _ (p := ⟨s + 1 + 1, 0, none⟩) (.inr rfl) (by have := HSIZ.out; show w.heap.size ≤ s + 1 + 1; omega) _))
              refine ⟨(HKO.out.trans (KeepsOthers.setCell _ _ _)).trans (KeepsOthers.setCell _ _ _), hk1, ?_, ?_, HX.out.2.2.trans hk1⟩
              · rw [bestB_snoc, ← HBW.out, HST.out, if_pos (by omega), Below.heap_setCell _ _ _ _ (by show s + 1 ≠ s + 1 + 1; omega)]
                exact setCell_heap HB6.out.2.2.1 0 _
              · rw [bestB_snoc, ← HBW.out, HST.out, if_pos (by omega)]
                refine setCell_heap (cs := #[.int .i64 ww]) ?_ 0 _
                rw [Below.heap_setCell _ _ _ _ (by show s + 1 + 1 ≠ s + 1; omega)]
                exact HB6.out.2.2.2.1
            · have q1 : decide (bb < 0) = false := decide_eq_false h1
              by_cases h2 : wt > ww
              · have q2 : decide (wt > ww) = true := decide_eq_true h2
                gi_wp2
                have hk1 : Kq (fun b => b = s + 1 ∨ b = s + 1 + 1) w.heap.size W ((w6.setCell ⟨s + 1, 0, none⟩ (.int .i64 x)).setCell ⟨s + 1 + 1, 0, none⟩ (.int .i64 wt)) :=
                  (Kq.ofBelow HB6.out.1 HWS.out.1).trans ((Kq.setCell w6 (p := ⟨s + 1, 0, none⟩) (.inl rfl) (by have := HSIZ.out; show w.heap.size ≤ s + 1; omega) _).trans (Kq.setCell _ (p := ⟨s + 1 + 1, 0, none⟩) (.inr rfl) (by have := HSIZ.out; show w.heap.size ≤ s + 1 + 1; omega) _))
                refine ⟨(HKO.out.trans (KeepsOthers.setCell _ _ _)).trans (KeepsOthers.setCell _ _ _), hk1, ?_, ?_, HX.out.2.2.trans hk1⟩
                · rw [bestB_snoc, ← HBW.out, HST.out, if_pos (by omega), Below.heap_setCell _ _ _ _ (by show s + 1 ≠ s + 1 + 1; omega)]
                  exact setCell_heap HB6.out.2.2.1 0 _
                · rw [bestB_snoc, ← HBW.out, HST.out, if_pos (by omega)]
                  refine setCell_heap (cs := #[.int .i64 ww]) ?_ 0 _
                  rw [Below.heap_setCell _ _ _ _ (by show s + 1 + 1 ≠ s + 1; omega)]
                  exact HB6.out.2.2.2.1
              · have q2 : decide (wt > ww) = false := decide_eq_false h2
                gi_wp2
                refine ⟨HKO.out, Kq.ofBelow HB6.out.1 HWS.out.1, ?_, ?_, HX.out.2.2.trans (Kq.ofBelow HB6.out.1 HWS.out.1)⟩
                · rw [bestB_snoc, ← HBW.out, HST.out, if_neg (by omega)]
                  exact HB6.out.2.2.1
                · rw [bestB_snoc, ← HBW.out, HST.out, if_neg (by omega)]
                  exact HB6.out.2.2.2.1
          · have hp1 : decide (px ≥ 0) = false := decide_eq_false hp
            have HWT := Aside0.mk (show wtE ks ⟨ym, yp, ys, ya⟩ = 0 from by
              unfold wtE
              rw [hwg, HPX.out, if_neg hp]
              rfl)
            clear hwg
            have HST := Aside0.mk (show stepB ks l (bb, ww) x = if bb < 0 ∨ 0 > ww then ((x : Int), 0) else (bb, ww) from by
              unfold stepB
              rw [HXY.out, HWT.out])
            by_cases h1 : bb < 0
            · have q1 : decide (bb < 0) = true := decide_eq_true h1
              gi_wp2
              have hk1 : Kq (fun b => b = s + 1 ∨ b = s + 1 + 1) w.heap.size W ((w6.setCell ⟨s + 1, 0, none⟩ (.int .i64 x)).setCell ⟨s + 1 + 1, 0, none⟩ (.int .i64 0)) :=
                (Kq.ofBelow HB6.out.1 HWS.out.1).trans ((Kq.setCell w6 (p := ⟨s + 1, 0, none⟩) (.inl rfl) (by have := HSIZ.out; show w.heap.size ≤ s + 1; omega) _).trans (Kq.setCell _ (p := ⟨s + 1 + 1, 0, none⟩) (.inr rfl) (by have := HSIZ.out; show w.heap.size ≤ s + 1 + 1; omega) _))
              refine ⟨(HKO.out.trans (KeepsOthers.setCell _ _ _)).trans (KeepsOthers.setCell _ _ _), hk1, ?_, ?_, HX.out.2.2.trans hk1⟩
              · rw [bestB_snoc, ← HBW.out, HST.out, if_pos (by omega), Below.heap_setCell _ _ _ _ (by show s + 1 ≠ s + 1 + 1; omega)]
                exact setCell_heap HB6.out.2.2.1 0 _
              · rw [bestB_snoc, ← HBW.out, HST.out, if_pos (by omega)]
                refine setCell_heap (cs := #[.int .i64 ww]) ?_ 0 _
                rw [Below.heap_setCell _ _ _ _ (by show s + 1 + 1 ≠ s + 1; omega)]
                exact HB6.out.2.2.2.1
            · have q1 : decide (bb < 0) = false := decide_eq_false h1
              by_cases h2 : 0 > ww
              · have q2 : decide (0 > ww) = true := decide_eq_true h2
                gi_wp2
                have hk1 : Kq (fun b => b = s + 1 ∨ b = s + 1 + 1) w.heap.size W ((w6.setCell ⟨s + 1, 0, none⟩ (.int .i64 x)).setCell ⟨s + 1 + 1, 0, none⟩ (.int .i64 0)) :=
                  (Kq.ofBelow HB6.out.1 HWS.out.1).trans ((Kq.setCell w6 (p := ⟨s + 1, 0, none⟩) (.inl rfl) (by have := HSIZ.out; show w.heap.size ≤ s + 1; omega) _).trans (Kq.setCell _ (p := ⟨s + 1 + 1, 0, none⟩) (.inr rfl) (by have := HSIZ.out; show w.heap.size ≤ s + 1 + 1; omega) _))
                refine ⟨(HKO.out.trans (KeepsOthers.setCell _ _ _)).trans (KeepsOthers.setCell _ _ _), hk1, ?_, ?_, HX.out.2.2.trans hk1⟩
                · rw [bestB_snoc, ← HBW.out, HST.out, if_pos (by omega), Below.heap_setCell _ _ _ _ (by show s + 1 ≠ s + 1 + 1; omega)]
                  exact setCell_heap HB6.out.2.2.1 0 _
                · rw [bestB_snoc, ← HBW.out, HST.out, if_pos (by omega)]
                  refine setCell_heap (cs := #[.int .i64 ww]) ?_ 0 _
                  rw [Below.heap_setCell _ _ _ _ (by show s + 1 + 1 ≠ s + 1; omega)]
                  exact HB6.out.2.2.2.1
              · have q2 : decide (0 > ww) = false := decide_eq_false h2
                gi_wp2
                refine ⟨HKO.out, Kq.ofBelow HB6.out.1 HWS.out.1, ?_, ?_, HX.out.2.2.trans (Kq.ofBelow HB6.out.1 HWS.out.1)⟩
                · rw [bestB_snoc, ← HBW.out, HST.out, if_neg (by omega)]
                  exact HB6.out.2.2.1
                · rw [bestB_snoc, ← HBW.out, HST.out, if_neg (by omega)]
                  exact HB6.out.2.2.2.1
      case done =>
        intro D W hD hI hK
        have c9 := cellOf hI.1 0
        have HB := Aside0.mk (HV.out.2.1.trans hI.2.2.b)
        have HKD := Aside0.mk hK
        clear hI hK
        gi_wp2
        go_wp2
        refine ⟨by simp, .inl ⟨_, _, rfl, run_takeDeferred HKD.out, ?_⟩⟩
        refine ⟨_, results_tmp rfl _ _ _, ?_⟩
        refine ⟨by rw [HRV.out]; unfold findP; rw [← HR1.out, ← HR2.out]; rfl, HB.out.trans (belowK_b (w := w) (Nat.le_refl _) W D _ _ (by have := HSIZ.out; omega) HKD.out rfl rfl)⟩
end Go.Proofs.Ytdfmeclhpefmfaa.Own
