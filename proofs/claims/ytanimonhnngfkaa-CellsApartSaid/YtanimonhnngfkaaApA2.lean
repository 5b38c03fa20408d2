/-
  The law CellsApart.
-/
import Derived.Test.YtanimonhnngfkaaApA1
import Derived.Test.YtanimonhnngfkaaWInv
import Derived.Test.YtanimonhnngfkaaWInvWords
set_option linter.unusedVariables false
set_option linter.unusedSimpArgs false
namespace Go.Proofs.Ytanimonhnngfkaa.Own
open Go.RowKit Go.Proofs.YtanimonhnngfkaaW.PrintLast
open Go.Proofs.YtanimonhnngfkaaW.PrintWords (Aside0)

/-- The one row of counters. -/
def cnt (cs : List Num) : Arr := ⟨⟨#[99]⟩, 4, 64, 0, 0, cs, []⟩
def cntN (W : List Int) : List Num := W.map fun x => ⟨64, 0, x⟩
theorem cntN_length (W : List Int) : (cntN W).length = W.length := by simp [cntN]
theorem cntN_getD (W : List Int) (k : Nat) (hk : k < W.length) : (cntN W).getD k zeroNum = ⟨64, 0, W.getD k 0⟩ := by
  simp [cntN, List.getD_eq_getElem?_getD, hk]
theorem cntN_set (W : List Int) (k : Nat) (x : Int) : (cntN W).set k ⟨64, 0, x⟩ = cntN (W.set k x) := by
  simp [cntN, List.map_set]
theorem num64_u (L : Int) (h0 : 0 ≤ L) (h1 : L ≤ 18446744073709551615) : (⟨64, 0, L⟩ : Num).wf ∧ (⟨64, 0, L⟩ : Num).ok := by
  refine ⟨⟨⟨by show (-9223372036854775808:Int) ≤ 64; omega, by show (64:Int) ≤ 9223372036854775807; omega⟩, ⟨by show (0:Int) ≤ 0; omega, by show (0:Int) ≤ 18446744073709551615; omega⟩, h0, h1⟩, by show (1:Int) ≤ 64; omega, by show (64:Int) ≤ 128; omega, rfl, ?_⟩
  show cutLo 64 L = L
  rfl
theorem cnt_ok (W : List Int) (h : 1 ≤ W.length ∧ W.length ≤ 4096) (hW : ∀ j, j < W.length → 0 ≤ W.getD j 0 ∧ W.getD j 0 ≤ 1000) : (cnt (cntN W)).ok := by
  refine ⟨.inr (.inl rfl), ⟨fun _ => ⟨rfl, rfl, rfl⟩, fun h => absurd (show (4 : Int) = 3 from h) (by decide), fun _ => rfl, fun h => absurd (show (4 : Int) = 5 from h) (by decide)⟩, by show 1 ≤ (cntN W).length ∧ (cntN W).length ≤ 4096; rw [cntN_length]; exact h, fun j hj => ?_, fun j hj => absurd hj (by show ¬ j < 0; omega)⟩
  have hj' : j < W.length := by have : j < (cntN W).length := hj; rwa [cntN_length] at this
  show ((cntN W).getD j zeroNum).wf ∧ (cnt (cntN W)).okC ((cntN W).getD j zeroNum)
  rw [cntN_getD W j hj']
  obtain ⟨a, b⟩ := hW j hj'
  obtain ⟨h1, h2⟩ := num64_u (W.getD j 0) a (by omega)
  exact ⟨h1, h2, rfl, fun h => absurd (show (4 : Int) = 5 from h) (by decide)⟩
/-- New of the one declaration. -/
theorem New_cnt (w : World) (N : Nat) (hN : 1 ≤ N ∧ N ≤ 4096) (cs : Array Value) (hcs : cs.toList = decCells 4 ⟨#[99]⟩ N 0 0) :
    Calls Try.prog 8 #[.slice (some ⟨w.heap.size, 0, none⟩) 1 1] (w.alloc (.cells cs 33)) fun e w' => ∃ A c, e = .returned (.slice A 1 c) ∧ RowAt w' A 1 [cnt (cntN (List.replicate N 0))] ∧ Below w.heap.size w w' := by
  have hb : Below w.heap.size w (w.alloc (.cells cs 33)) := (Below.refl _ _).alloc (Nat.le_refl _) _
  have hh := heap_alloc_new w (.cells cs 33)
  have hok : ∀ j, j < 1 → (([⟨4, ⟨#[99]⟩, N, 0, 0⟩] : List Dec).getD j zeroDec).ok := by
    intro j hj
    obtain rfl : j = 0 := by omega
    exact ⟨hN, .inl rfl⟩
  refine Calls.mono (New_any [⟨4, ⟨#[99]⟩, N, 0, 0⟩] w.heap.size 1 1 (w.alloc (.cells cs 33)) rfl (by omega) hok ?_ (Array.getElem?_eq_some_iff.1 hh).1) ?_
  · intro j i hj hi
    rw [cellOf hh, ← Array.getElem?_toList, hcs]
    obtain rfl : j = 0 := by omega
    rw [Nat.zero_mul, Nat.zero_add]; rfl
  · rintro e w' ⟨v, rfl, hA, hB'⟩
    have e1 : ([⟨4, ⟨#[99]⟩, N, 0, 0⟩] : List Dec).map Dec.arr = [cnt (cntN (List.replicate N 0))] := by
      simp [Dec.arr, cnt, cntN]
    rw [e1] at hA
    have hk := cnt_ok (List.replicate N 0) (by simpa using hN) (fun j hj => by
      have hj' : j < N := by simpa using hj
      rw [List.getD_eq_getElem?_getD, List.getElem?_eq_getElem (by simpa using hj')]; simp)
    obtain ⟨A, c, rfl, hR'⟩ := hA.rowAt (ok_one' _ hk) (by show 1 ≤ 1048576; omega)
    exact ⟨A, c, rfl, hR', hb.trans (hB'.mono hb.size)⟩
structure ApAt (pb pw N : Nat) (W : List Int) (A : Option Addr) (c : Nat) (B' : Option Addr) (d : Nat) (wr : World) : Prop where
  box : wr.heap[pb]? = some (.cells #[.string ⟨#[99]⟩, .int .u8 4, .int .i64 64, .int .i64 0, .int .i64 0, .slice A N c, .slice B' 0 d] 38 (0, 0))
  want : wr.heap[pw]? = some (.cells (nums .u64 W).toArray 40 (0, 0))
  hR : ReadsNums wr A N (cntN (W.take N))
  hd : B' = none → d = 0
  hA : ∀ ad, A = some ad → ad.block ≠ pb ∧ ad.block ≠ pw
theorem reads_zero (w : World) (B : Option Addr) : Reads w .i64 B 0 [] := ⟨rfl, by omega, fun h => by omega⟩
theorem count_arg (x : Int) (h0 : 0 ≤ x) (h1 : x ≤ 255) : (⟨8, 0, x⟩ : Num).wf ∧ (⟨8, 0, x⟩ : Num).ok := num8_ok x h0 h1
theorem getD_take (W : List Int) (N m : Nat) (h : m < N) : (W.take N).getD m 0 = W.getD m 0 := by
  simp [List.getD_eq_getElem?_getD, List.getElem?_take, h]
theorem take_set (W : List Int) (N m : Nat) (x : Int) : (W.take N).set m x = (W.set m x).take N := by
  rw [List.take_set]
theorem nums_get (k : IntKind) (W : List Int) (m : Nat) (h : m < W.length) : (nums k W)[m]? = some (.int k (W.getD m 0)) := by
  simp [nums, List.getD_eq_getElem?_getD, h]
/-- Count, of the one row of counters. -/
theorem Count_cnt_in (N : Nat) (W : List Int) (hW : W.length = 256) (hN : 1 ≤ N ∧ N ≤ 200) (hWb : ∀ j, j < 256 → 0 ≤ W.getD j 0 ∧ W.getD j 0 ≤ 900) (m : Nat) (hm : m < N) (A : Option Addr) (c : Nat) (B' : Option Addr) (d : Nat) (hd : B' = none → d = 0) (w : World) (hR : ReadsNums w A N (cntN (W.take N))) :
    Calls Try.prog 10 #[.agg #[.string ⟨#[99]⟩, .int .u8 4, .int .i64 64, .int .i64 0, .int .i64 0, .slice A N c, .slice B' 0 d], .agg #[.int .i64 8, .int .u64 0, .int .u64 (m : Int)]] w fun e w' => ∃ g B2, e = .returned (.tuple #[.agg #[.string ⟨#[99]⟩, .int .u8 4, .int .i64 64, .int .i64 0, .int .i64 0, .slice (some ⟨g, 0, none⟩) N N, .slice B2 0 0], .int .i64 0]) ∧ w.heap.size ≤ g ∧ ReadsNums w' (some ⟨g, 0, none⟩) N (cntN ((W.set m (W.getD m 0 + 1)).take N)) ∧ Below w.heap.size w w' := by
  obtain ⟨o1, o2⟩ := count_arg (m : Int) (by omega) (by omega)
  have hl : (W.take N).length = N := by simp; omega
  have hok := cnt_ok (W.take N) (by omega) (fun j hj => by
    rw [getD_take W N j (by omega)]
    obtain ⟨a, b⟩ := hWb j (by omega)
    exact ⟨a, by omega⟩)
  have hb := hWb m (by omega)
  refine Calls.mono (Count_in (cnt (cntN (W.take N))) hok rfl A N c B' 0 d m hd 64 0 (W.getD m 0) (by show (cntN (W.take N)).getD m zeroNum = _; rw [cntN_getD _ _ (by omega), getD_take W N m hm]) ⟨8, 0, (m : Int)⟩ o1 o2 rfl rfl hm w hR (reads_zero w B')) ?_
  rintro e w' ⟨g, B2, rfl, hg, hg1, _, _, hbl⟩
  have e1 : IntKind.u64.wrap (W.getD m 0 + 1) = W.getD m 0 + 1 := by rw [IntKind.wrap_u64]; omega
  rw [e1] at hg1
  have hg2 : w'.heap[g]? = some (.cells (numsV ((cntN (W.take N)).set m ⟨64, 0, W.getD m 0 + 1⟩)).toArray 45 (0, 0)) := hg1
  rw [cntN_set, take_set] at hg2
  have hl2 : (cntN ((W.set m (W.getD m 0 + 1)).take N)).length = N := by rw [cntN_length]; simp; omega
  refine ⟨g, B2, rfl, hg, ?_, hbl⟩
  have := readsNums_at hg2 (by rw [hl2]; omega)
  rwa [hl2] at this
theorem Count_cnt_out (N : Nat) (W : List Int) (hW : W.length = 256) (hN : 1 ≤ N ∧ N ≤ 200) (hWb : ∀ j, j < 256 → 0 ≤ W.getD j 0 ∧ W.getD j 0 ≤ 900) (m : Nat) (hm : N ≤ m) (hm1 : m ≤ 255) (A : Option Addr) (c : Nat) (B' : Option Addr) (d : Nat) (hd : B' = none → d = 0) (w : World) (hR : ReadsNums w A N (cntN (W.take N))) :
    Calls Try.prog 10 #[.agg #[.string ⟨#[99]⟩, .int .u8 4, .int .i64 64, .int .i64 0, .int .i64 0, .slice A N c, .slice B' 0 d], .agg #[.int .i64 8, .int .u64 0, .int .u64 (m : Int)]] w fun e w' => e = .returned (.tuple #[.agg #[.string ⟨#[]⟩, .int .u8 0, .int .i64 0, .int .i64 0, .int .i64 0, .slice none 0 0, .slice none 0 0], .int .i64 11]) ∧ Below w.heap.size w w' := by
  obtain ⟨o1, o2⟩ := count_arg (m : Int) (by omega) (by omega)
  have hl : (W.take N).length = N := by simp; omega
  have hok := cnt_ok (W.take N) (by omega) (fun j hj => by
    rw [getD_take W N j (by omega)]
    obtain ⟨a, b⟩ := hWb j (by omega)
    exact ⟨a, by omega⟩)
  exact Count_out (cnt (cntN (W.take N))) hok rfl A N c B' 0 d m hd ⟨8, 0, (m : Int)⟩ o1 o2 rfl rfl hm (by omega) w hR (reads_zero w B')
def zeros256 : Array Value := (nums .u64 (List.replicate 256 0)).toArray
theorem zero40 (W : World) : (zeroValue 40).run Try.prog W = .ok (.agg zeros256) W := by kernel_rfl
def apart10.T10 : Bool × List (List Nat × List Nat) := (true, [([], []), ([], []), ([], []), ([1, 2], [1, 2]), ([3], [3]), ([4], [4]), ([5], [5]), ([0, 6], [0, 6]), ([7], [7]), ([8], [8]), ([8], [8]), ([], []), ([11, 9, 7, 0, 1, 2, 3, 4, 5, 6, 7, 8, 9, 11], [9, 11]), ([10, 12, 0, 1, 2, 3, 4, 5, 6, 7, 8, 9, 10, 11, 12], [10])])
def apart10.B10 : List Nat := [0, 0, 0, 6, 14, 30, 62, 127, 255, 511, 511, 0, 3071, 8191]
theorem apart10.tab10 : rtab .any (opsOf Try.f3 10) = apart10.T10 := by kernel_rfl
theorem apart10.bits10 : waitsOk apart10.T10.2 apart10.B10 = true := by kernel_rfl
set_option maxRecDepth 100000 in
set_option maxHeartbeats 3200000 in
theorem Apart_any (b : Int) (hb0 : 0 ≤ b ∧ b ≤ 255) (X : Option Addr) (n c_ : Nat) (xs : List Int) (w : World) (hX : Reads w .u8 X n xs) (hx : ∀ j, j < n → 0 ≤ xs.getD j 0 ∧ xs.getD j 0 ≤ 255) :
    Calls Try.prog 3 #[.int .u8 b, .slice X n c_] w fun e w' => e = .returned (.bool true) ∧ Below w.heap.size w w' := by
  have hw2 : IntKind.i64.wrap b = b := by rw [IntKind.wrap_i64]; omega
  obtain ⟨N, hN⟩ : ∃ N : Nat, (1 : Int) + b.tmod 200 = (N : Int) := Int.eq_ofNat_of_zero_le (by rw [Int.tmod_eq_emod_of_nonneg hb0.1]; omega)
  have hN1 : 1 ≤ N ∧ N ≤ 200 := by rw [Int.tmod_eq_emod_of_nonneg hb0.1] at hN; omega
  obtain ⟨q, hq⟩ : ∃ q, b.tmod 200 = q := ⟨_, rfl⟩
  rw [hq] at hN
  have hwN : IntKind.i64.wrap (1 + q) = (N : Int) := by rw [hN, IntKind.wrap_i64]; omega
  have HNW := aside (New_cnt w N (by omega) #[.int .u8 4, .string ⟨#[99]⟩, .slice none 0 0, .int .i64 0, .int .i64 N, .int .i64 0, .int .i64 0, .slice none 0 0, .slice none 0 0, .slice none 0 0, .string ⟨#[]⟩, .slice none 0 0, .slice none 0 0, .slice none 0 0, .int .i64 0] rfl)
  have HX := aside hX
  have HXB := aside hx
  have hnn := hX.2.1
  clear hX hx
  go_enter Try.func3, Try.ntmps3
  go_wp2_with fail
  refine Calls.mono HNW.out ?_
  rintro e w1 ⟨A, cA, rfl, hRow, hb1⟩
  obtain ⟨bb, off, hA, hblt, hrs⟩ := hRow.2.2 (by omega)
  subst hA
  by_cases hbig : (500 : Int) < (n : Int)
  · have hd : decide ((500 : Int) < (n : Int)) = true := decide_eq_true hbig
    clear hRow hrs
    go_wp2_with fail
    refine Calls.mono (lives_any _) ?_
    rintro e w2 ⟨rfl, hb2⟩
    go_wp2
    go_ret
    exact ⟨rfl, hb1.trans (hb2.mono hb1.size)⟩
  · have hd : decide ((500 : Int) < (n : Int)) = false := decide_eq_false hbig
    obtain ⟨A0, n0, c0, B0, m0, d0, hc0, hr0, hs0, hB0⟩ := hrs 0 (by omega)
    obtain rfl : N = n0 := by have := hr0.1; rw [← this]; show N = (cntN (List.replicate N 0)).length; rw [cntN_length]; simp
    obtain rfl : 0 = m0 := hs0.1
    have l0 : w1.cell? ⟨bb, off, none⟩ = some (.string ⟨#[99]⟩) := hc0 0 _ rfl
    have l1 : w1.cell? ⟨bb, off + 1, none⟩ = some (.int .u8 4) := hc0 1 _ rfl
    have l2 : w1.cell? ⟨bb, off + 2, none⟩ = some (.int .i64 64) := hc0 2 _ rfl
    have l3 : w1.cell? ⟨bb, off + 3, none⟩ = some (.int .i64 0) := hc0 3 _ rfl
    have l4 : w1.cell? ⟨bb, off + 4, none⟩ = some (.int .i64 0) := hc0 4 _ rfl
    have l5 : w1.cell? ⟨bb, off + 5, none⟩ = some (.slice A0 N c0) := hc0 5 _ rfl
    have l6 : w1.cell? ⟨bb, off + 6, none⟩ = some (.slice B0 0 d0) := hc0 6 _ rfl
    have HR0 := aside hr0
    have HS0 := aside hs0
    have HB0 := aside hB0
    have HB1 := aside hb1
    clear hRow hrs hc0 hr0 hs0 hB0 hb1 HNW
    have hz : ∀ W : World, (zeroValue 40).run Try.prog W = .ok (.agg zeros256) W := zero40
    have hpw := sizeLit w1 (.cells #[.string ⟨#[99]⟩, .int .u8 4, .int .i64 64, .int .i64 0, .int .i64 0, .slice A0 N c0, .slice B0 0 d0] 38)
    have hal := ((Below.refl w1.heap.size w1).alloc (Nat.le_refl _) (.cells #[.string ⟨#[99]⟩, .int .u8 4, .int .i64 64, .int .i64 0, .int .i64 0, .slice A0 N c0, .slice B0 0 d0] 38)).alloc (by rw [sizeLit]; omega) (.cells zeros256 40)
    have hB2 := HB1.out.trans (hal.mono HB1.out.size)
    have hR0 : ApAt w1.heap.size (w1.heap.size + 1) N (List.replicate 256 0) A0 c0 B0 d0 ((w1.alloc (.cells #[.string ⟨#[99]⟩, .int .u8 4, .int .i64 64, .int .i64 0, .int .i64 0, .slice A0 N c0, .slice B0 0 d0] 38)).alloc (.cells zeros256 40)) :=
      ⟨heapOld _ _ _ _ (heap_alloc_new _ _), heapLit _ _ _ _ (by omega), by
        have h := HR0.out.below hal
        have e : List.replicate N (0 : Int) = (List.replicate 256 0).take N := by rw [List.take_replicate, Nat.min_eq_left (by omega)]
        rw [e] at h
        exact h, HB0.out, fun ad e => by have := nums_lt HR0.out ad e (by omega); omega⟩
    have HR0' := aside hR0
    have HB2 := aside hB2
    have hws : w.heap.size ≤ w1.heap.size := HB1.out.size
    clear hR0 hal HR0 HS0 HB0 hB2 hpw
    go_wp2_with fail
    go_loopw [9] (fun v9 wr => ∃ (k : Nat) (W : List Int) (A : Option Addr) (c : Nat) (B' : Option Addr) (d : Nat), k ≤ n ∧ v9 = .int .i64 k ∧ Aside (W.length = 256 ∧ ∀ j, j < 256 → 0 ≤ W.getD j 0 ∧ W.getD j 0 ≤ k) ∧ Aside (ApAt w1.heap.size (w1.heap.size + 1) N W A c B' d wr) ∧ Aside (Below w.heap.size w wr)) (fun i _ => n - (intOf i).toNat)
    case atStart => exact ⟨0, List.replicate 256 0, A0, c0, B0, d0, Nat.zero_le _, rfl, ⟨by simp, fun j hj => by rw [getD_replicate 0 0 256 j hj]; omega⟩, HR0', HB2⟩
    case round =>
      obtain ⟨k, W, A, c, B', d, hk, rfl, HW, HM, HB⟩ := hrel
      clear HR0' HB2 l0 l1 l2 l3 l4 l5 l6
      by_cases hlt : k < n
      · obtain ⟨xb, xo, rfl, hxlt, hcs⟩ := HX.out.plain (by omega)
        have hcx := (HB.out.cell (p := ⟨xb, xo + k, none⟩) hxlt).trans (hcs k hlt)
        clear hcs
        have hxb := HXB.out k hlt
        generalize xs.getD k 0 = x at *
        obtain ⟨m, rfl⟩ := Int.eq_ofNat_of_zero_le hxb.1
        have hwx : IntKind.u64.wrap (m : Int) = (m : Int) := by rw [IntKind.wrap_u64]; omega
        have hwi : IntKind.i64.wrap (m : Int) = (m : Int) := by rw [IntKind.wrap_i64]; omega
        have hk0 : (0 : Int) ≤ (k : Int) := by omega
        have hk1 : (k : Int) < (n : Int) := by omega
        have hWb : ∀ j, j < 256 → 0 ≤ W.getD j 0 ∧ W.getD j 0 ≤ 900 := fun j hj => by have := HW.out.2 j hj; omega
        have FB := aside (Below.refl wr.heap.size wr).drew
        have hm256 : m < 256 := by omega
        have hmz : (0 : Int) ≤ (m : Int) := by omega
        have hmy : (m : Int) < 256 := by omega
        have hLb := hWb m hm256
        by_cases hmN : m < N
        · have HCI := aside (fun V (h : Below wr.heap.size wr V) => Count_cnt_in N W HW.out.1 hN1 hWb m hmN A c B' d HM.out.hd V (HM.out.hR.below h))
          obtain ⟨Lm, hLm⟩ : ∃ Lm, W.getD m 0 = Lm := ⟨_, rfl⟩
          have HLm := aside hLm
          rw [hLm] at hLb
          have hmd : decide ((m : Int) < (N : Int)) = true := decide_eq_true (by omega)
          clear hWb hLm
          go_wp2_with fail
          refine start_ (n := 14) (S := fun w' => True) (ds := []) #[false, false, false, false, false, false, false, false, false, false, false, false, false, false] (by kernel_rfl) rfl rfl trivial (fun hHeld => ?_)
          refine with_tabW apart10.tab10 apart10.bits10 (fun HT_ HW_ => ?_)
          refine inv_at [0, 1, 2, 3, 4, 5, 6, 7, 8, 9, 10, 11, 12, 13] (fun a0_ b a w' => ∃ (g : Nat) (B2 : Option Addr) (p : Nat) (m7_ : Value) (m8_ : Value) (m9_ : Value) (m11_ : Value), a = putSel a0_ b [(0, 45, .agg #[.string ⟨#[99]⟩, .int .u8 4, .int .i64 64, .int .i64 0, .int .i64 0, .slice A N c, .slice B' 0 d]), (1, 46, .slice (some ⟨xb, xo, none⟩) n c_), (2, 47, .int .i64 (k : Int)), (3, 48, .pointer (some ⟨xb, xo + k, none⟩)), (4, 49, .int .u8 (m : Int)), (5, 50, .int .u64 (m : Int)), (6, 51, .agg #[.int .i64 8, .int .u64 0, .int .u64 (m : Int)]), (7, 52, m7_), (8, 44, m8_), (9, 53, m9_), (10, 54, .int .i64 0), (11, 10, m11_), (13, 11, .int .i64 0)] ∧ (Below wr.heap.size wr w') ∧ (b 11 = true → b 12 = false → w'.heap[p]? = some (.cells #[.string ⟨#[]⟩, .int .u8 0, .int .i64 0, .int .i64 0, .int .i64 0, .slice none 0 0, .slice none 0 0] 38 (0, 0))) ∧ (b 12 = true → w'.heap[p]? = some (.cells #[.string ⟨#[99]⟩, .int .u8 4, .int .i64 64, .int .i64 0, .int .i64 0, .slice (some ⟨g, 0, none⟩) N N, .slice B2 0 0] 38 (0, 0))) ∧ (b 11 = true → wr.heap.size ≤ p) ∧ (b 7 = true → wr.heap.size ≤ g ∧ g < w'.heap.size) ∧ (b 7 = true → ReadsNums w' (some ⟨g, 0, none⟩) N (cntN ((W.set m (W.getD m 0 + 1)).take N))) ∧ (b 7 = true → b 11 = true → ¬ p = g) ∧ (b 7 = true → (m7_ : Value) = .tuple #[.agg #[.string ⟨#[99]⟩, .int .u8 4, .int .i64 64, .int .i64 0, .int .i64 0, .slice (some ⟨g, 0, none⟩) N N, .slice B2 0 0], .int .i64 0]) ∧ (b 8 = true → (m8_ : Value) = .tuple #[.agg #[.string ⟨#[99]⟩, .int .u8 4, .int .i64 64, .int .i64 0, .int .i64 0, .slice (some ⟨g, 0, none⟩) N N, .slice B2 0 0], .int .i64 0]) ∧ (b 9 = true → (m9_ : Value) = .agg #[.string ⟨#[99]⟩, .int .u8 4, .int .i64 64, .int .i64 0, .int .i64 0, .slice (some ⟨g, 0, none⟩) N N, .slice B2 0 0]) ∧ (b 11 = true → (m11_ : Value) = .pointer (some ⟨p, 0, none⟩))) HT_.out HW_.out (by kernel_rfl) (by kernel_rfl) ?_ ?_ ?_
          · exact ⟨0, none, 0, .bool false, .bool false, .bool false, .bool false, by simp only [putSel, Bool.false_eq_true, if_false], FB.out, fun h_ => absurd h_ (by decide), fun h_ => absurd h_ (by decide), fun h_ => absurd h_ (by decide), fun h_ => absurd h_ (by decide), fun h_ => absurd h_ (by decide), fun h_ => absurd h_ (by decide), fun h_ => absurd h_ (by decide), fun h_ => absurd h_ (by decide), fun h_ => absurd h_ (by decide), fun h_ => absurd h_ (by decide)⟩
          · skip
            clear FB
            refine steps_cons ?_ ?_
            · rintro b a w' ⟨g, B2, p, m7_, m8_, m9_, m11_, ha, Q_FB, Q_FZ, Q_FS, Q_FP, Q_FG, Q_FR, Q_FN, Q_X7_, Q_X8_, Q_X9_, Q_X11_⟩ hb_ hon hoff
              refine ⟨_, rfl, fun K hK => ?_⟩
              have e7 : a.tmps[7]? = some (.pointer (some ⟨w1.heap.size, 0, none⟩)) := by rw [ha]; exact (putSel_off rfl).trans rfl
              replace ha := Aside0.mk ha
              have FB := Aside0.mk Q_FB
              obtain ⟨⟨m0, m1, m2⟩, m3, m4, m5, m6⟩ := cells7' (aside ((FB.out.block _ (Array.getElem?_eq_some_iff.1 HM.out.box).1).trans HM.out.box))
              refine value_ (w1 := w') (v := .agg #[.string ⟨#[99]⟩, .int .u8 4, .int .i64 64, .int .i64 0, .int .i64 0, .slice A N c, .slice B' 0 d]) (by rfl) rfl ?_ ?_
              · go_simp
                (try simp only [i64_w])
                try rfl
              refine hK.out _ _ ⟨g, B2, p, m7_, m8_, m9_, m11_, (by rw [ha.out]; exact putSel_upk 0 hb_ rfl rfl rfl), Q_FB, Q_FZ, fun h0_ => absurd ((hoff 12 (by kernel_rfl)).symm.trans h0_) (by decide), Q_FP, fun h0_ => absurd ((hoff 7 (by kernel_rfl)).symm.trans h0_) (by decide), fun h0_ => absurd ((hoff 7 (by kernel_rfl)).symm.trans h0_) (by decide), fun h0_ _ => absurd ((hoff 7 (by kernel_rfl)).symm.trans h0_) (by decide), fun h0_ => absurd ((hoff 7 (by kernel_rfl)).symm.trans h0_) (by decide), fun h0_ => absurd ((hoff 8 (by kernel_rfl)).symm.trans h0_) (by decide), fun h0_ => absurd ((hoff 9 (by kernel_rfl)).symm.trans h0_) (by decide), Q_X11_⟩
            refine steps_cons ?_ ?_
            · rintro b a w' ⟨g, B2, p, m7_, m8_, m9_, m11_, ha, Q_FB, Q_FZ, Q_FS, Q_FP, Q_FG, Q_FR, Q_FN, Q_X7_, Q_X8_, Q_X9_, Q_X11_⟩ hb_ hon hoff
              refine ⟨_, rfl, fun K hK => ?_⟩
              have e1 : a.tmps[1]? = some (.slice (some ⟨xb, xo, none⟩) n c_) := by rw [ha]; exact (putSel_off rfl).trans rfl
              replace ha := Aside0.mk ha
              have FB := Aside0.mk Q_FB
              refine value_ (w1 := w') (v := .slice (some ⟨xb, xo, none⟩) n c_) (by rfl) rfl ?_ ?_
              · go_simp
                (try simp only [i64_w])
                try rfl
              refine hK.out _ _ ⟨g, B2, p, m7_, m8_, m9_, m11_, (by rw [ha.out]; exact putSel_upk 1 hb_ rfl rfl rfl), Q_FB, Q_FZ, fun h0_ => absurd ((hoff 12 (by kernel_rfl)).symm.trans h0_) (by decide), Q_FP, fun h0_ => absurd ((hoff 7 (by kernel_rfl)).symm.trans h0_) (by decide), fun h0_ => absurd ((hoff 7 (by kernel_rfl)).symm.trans h0_) (by decide), fun h0_ _ => absurd ((hoff 7 (by kernel_rfl)).symm.trans h0_) (by decide), fun h0_ => absurd ((hoff 7 (by kernel_rfl)).symm.trans h0_) (by decide), fun h0_ => absurd ((hoff 8 (by kernel_rfl)).symm.trans h0_) (by decide), fun h0_ => absurd ((hoff 9 (by kernel_rfl)).symm.trans h0_) (by decide), Q_X11_⟩
            refine steps_cons ?_ ?_
            · rintro b a w' ⟨g, B2, p, m7_, m8_, m9_, m11_, ha, Q_FB, Q_FZ, Q_FS, Q_FP, Q_FG, Q_FR, Q_FN, Q_X7_, Q_X8_, Q_X9_, Q_X11_⟩ hb_ hon hoff
              refine ⟨_, rfl, fun K hK => ?_⟩
              have e9 : a.tmps[9]? = some (.int .i64 (k : Int)) := by rw [ha]; exact (putSel_off rfl).trans rfl
              replace ha := Aside0.mk ha
              have FB := Aside0.mk Q_FB
              refine value_ (w1 := w') (v := .int .i64 (k : Int)) (by rfl) rfl ?_ ?_
              · go_simp
                (try simp only [i64_w])
                try rfl
              refine hK.out _ _ ⟨g, B2, p, m7_, m8_, m9_, m11_, (by rw [ha.out]; exact putSel_upk 2 hb_ rfl rfl rfl), Q_FB, Q_FZ, fun h0_ => absurd ((hoff 12 (by kernel_rfl)).symm.trans h0_) (by decide), Q_FP, fun h0_ => absurd ((hoff 7 (by kernel_rfl)).symm.trans h0_) (by decide), fun h0_ => absurd ((hoff 7 (by kernel_rfl)).symm.trans h0_) (by decide), fun h0_ _ => absurd ((hoff 7 (by kernel_rfl)).symm.trans h0_) (by decide), fun h0_ => absurd ((hoff 7 (by kernel_rfl)).symm.trans h0_) (by decide), fun h0_ => absurd ((hoff 8 (by kernel_rfl)).symm.trans h0_) (by decide), fun h0_ => absurd ((hoff 9 (by kernel_rfl)).symm.trans h0_) (by decide), Q_X11_⟩
            refine steps_cons ?_ ?_
            · rintro b a w' ⟨g, B2, p, m7_, m8_, m9_, m11_, ha, Q_FB, Q_FZ, Q_FS, Q_FP, Q_FG, Q_FR, Q_FN, Q_X7_, Q_X8_, Q_X9_, Q_X11_⟩ hb_ hon hoff
              refine ⟨_, rfl, fun K hK => ?_⟩
              have e46 : a.tmps[46]? = some (.slice (some ⟨xb, xo, none⟩) n c_) := by rw [ha]; exact putSel_on (e := (1, 46, .slice (some ⟨xb, xo, none⟩) n c_)) 1 rfl rfl (hon 1 (by kernel_rfl)) rfl
              have e47 : a.tmps[47]? = some (.int .i64 (k : Int)) := by rw [ha]; exact putSel_on (e := (2, 47, .int .i64 (k : Int))) 2 rfl rfl (hon 2 (by kernel_rfl)) rfl
              replace ha := Aside0.mk ha
              have FB := Aside0.mk Q_FB
              refine value_ (w1 := w') (v := .pointer (some ⟨xb, xo + k, none⟩)) (by rfl) rfl ?_ ?_
              · go_simp
                (try simp only [i64_w])
                try rfl
              refine hK.out _ _ ⟨g, B2, p, m7_, m8_, m9_, m11_, (by rw [ha.out]; exact putSel_upk 3 hb_ rfl rfl rfl), Q_FB, Q_FZ, fun h0_ => absurd ((hoff 12 (by kernel_rfl)).symm.trans h0_) (by decide), Q_FP, fun h0_ => absurd ((hoff 7 (by kernel_rfl)).symm.trans h0_) (by decide), fun h0_ => absurd ((hoff 7 (by kernel_rfl)).symm.trans h0_) (by decide), fun h0_ _ => absurd ((hoff 7 (by kernel_rfl)).symm.trans h0_) (by decide), fun h0_ => absurd ((hoff 7 (by kernel_rfl)).symm.trans h0_) (by decide), fun h0_ => absurd ((hoff 8 (by kernel_rfl)).symm.trans h0_) (by decide), fun h0_ => absurd ((hoff 9 (by kernel_rfl)).symm.trans h0_) (by decide), Q_X11_⟩
            refine steps_cons ?_ ?_
            · rintro b a w' ⟨g, B2, p, m7_, m8_, m9_, m11_, ha, Q_FB, Q_FZ, Q_FS, Q_FP, Q_FG, Q_FR, Q_FN, Q_X7_, Q_X8_, Q_X9_, Q_X11_⟩ hb_ hon hoff
              refine ⟨_, rfl, fun K hK => ?_⟩
              have e48 : a.tmps[48]? = some (.pointer (some ⟨xb, xo + k, none⟩)) := by rw [ha]; exact putSel_on (e := (3, 48, .pointer (some ⟨xb, xo + k, none⟩))) 3 rfl rfl (hon 3 (by kernel_rfl)) rfl
              replace ha := Aside0.mk ha
              have FB := Aside0.mk Q_FB
              have hc4_ : w'.cell? ⟨xb, xo + k, none⟩ = some (.int .u8 (m : Int)) := (FB.out.cell (World.block_lt_of_cell? _ _ hcx)).trans hcx
              refine value_ (w1 := w') (v := .int .u8 (m : Int)) (by rfl) rfl ?_ ?_
              · go_simp
                (try simp only [i64_w])
                try rfl
              refine hK.out _ _ ⟨g, B2, p, m7_, m8_, m9_, m11_, (by rw [ha.out]; exact putSel_upk 4 hb_ rfl rfl rfl), Q_FB, Q_FZ, fun h0_ => absurd ((hoff 12 (by kernel_rfl)).symm.trans h0_) (by decide), Q_FP, fun h0_ => absurd ((hoff 7 (by kernel_rfl)).symm.trans h0_) (by decide), fun h0_ => absurd ((hoff 7 (by kernel_rfl)).symm.trans h0_) (by decide), fun h0_ _ => absurd ((hoff 7 (by kernel_rfl)).symm.trans h0_) (by decide), fun h0_ => absurd ((hoff 7 (by kernel_rfl)).symm.trans h0_) (by decide), fun h0_ => absurd ((hoff 8 (by kernel_rfl)).symm.trans h0_) (by decide), fun h0_ => absurd ((hoff 9 (by kernel_rfl)).symm.trans h0_) (by decide), Q_X11_⟩
            refine steps_cons ?_ ?_
            · rintro b a w' ⟨g, B2, p, m7_, m8_, m9_, m11_, ha, Q_FB, Q_FZ, Q_FS, Q_FP, Q_FG, Q_FR, Q_FN, Q_X7_, Q_X8_, Q_X9_, Q_X11_⟩ hb_ hon hoff
              refine ⟨_, rfl, fun K hK => ?_⟩
              have e49 : a.tmps[49]? = some (.int .u8 (m : Int)) := by rw [ha]; exact putSel_on (e := (4, 49, .int .u8 (m : Int))) 4 rfl rfl (hon 4 (by kernel_rfl)) rfl
              replace ha := Aside0.mk ha
              have FB := Aside0.mk Q_FB
              refine value_ (w1 := w') (v := .int .u64 (m : Int)) (by rfl) rfl ?_ ?_
              · go_simp
                (try simp only [i64_w])
                try rfl
              refine hK.out _ _ ⟨g, B2, p, m7_, m8_, m9_, m11_, (by rw [ha.out]; exact putSel_upk 5 hb_ rfl rfl rfl), Q_FB, Q_FZ, fun h0_ => absurd ((hoff 12 (by kernel_rfl)).symm.trans h0_) (by decide), Q_FP, fun h0_ => absurd ((hoff 7 (by kernel_rfl)).symm.trans h0_) (by decide), fun h0_ => absurd ((hoff 7 (by kernel_rfl)).symm.trans h0_) (by decide), fun h0_ _ => absurd ((hoff 7 (by kernel_rfl)).symm.trans h0_) (by decide), fun h0_ => absurd ((hoff 7 (by kernel_rfl)).symm.trans h0_) (by decide), fun h0_ => absurd ((hoff 8 (by kernel_rfl)).symm.trans h0_) (by decide), fun h0_ => absurd ((hoff 9 (by kernel_rfl)).symm.trans h0_) (by decide), Q_X11_⟩
            refine steps_cons ?_ ?_
            · rintro b a w' ⟨g, B2, p, m7_, m8_, m9_, m11_, ha, Q_FB, Q_FZ, Q_FS, Q_FP, Q_FG, Q_FR, Q_FN, Q_X7_, Q_X8_, Q_X9_, Q_X11_⟩ hb_ hon hoff
              refine ⟨_, rfl, fun K hK => ?_⟩
              have e50 : a.tmps[50]? = some (.int .u64 (m : Int)) := by rw [ha]; exact putSel_on (e := (5, 50, .int .u64 (m : Int))) 5 rfl rfl (hon 5 (by kernel_rfl)) rfl
              replace ha := Aside0.mk ha
              have FB := Aside0.mk Q_FB
              refine value_ (w1 := w') (v := .agg #[.int .i64 8, .int .u64 0, .int .u64 (m : Int)]) (by rfl) rfl ?_ ?_
              · go_simp
                (try simp only [i64_w])
                try rfl
              refine hK.out _ _ ⟨g, B2, p, m7_, m8_, m9_, m11_, (by rw [ha.out]; exact putSel_upk 6 hb_ rfl rfl rfl), Q_FB, Q_FZ, fun h0_ => absurd ((hoff 12 (by kernel_rfl)).symm.trans h0_) (by decide), Q_FP, fun h0_ => absurd ((hoff 7 (by kernel_rfl)).symm.trans h0_) (by decide), fun h0_ => absurd ((hoff 7 (by kernel_rfl)).symm.trans h0_) (by decide), fun h0_ _ => absurd ((hoff 7 (by kernel_rfl)).symm.trans h0_) (by decide), fun h0_ => absurd ((hoff 7 (by kernel_rfl)).symm.trans h0_) (by decide), fun h0_ => absurd ((hoff 8 (by kernel_rfl)).symm.trans h0_) (by decide), fun h0_ => absurd ((hoff 9 (by kernel_rfl)).symm.trans h0_) (by decide), Q_X11_⟩
            refine steps_cons ?_ ?_
            · rintro b a w' ⟨g, B2, p, m7_, m8_, m9_, m11_, ha, Q_FB, Q_FZ, Q_FS, Q_FP, Q_FG, Q_FR, Q_FN, Q_X7_, Q_X8_, Q_X9_, Q_X11_⟩ hb_ hon hoff
              refine ⟨_, rfl, fun K hK => ?_⟩
              have e45 : a.tmps[45]? = some (.agg #[.string ⟨#[99]⟩, .int .u8 4, .int .i64 64, .int .i64 0, .int .i64 0, .slice A N c, .slice B' 0 d]) := by rw [ha]; exact putSel_on (e := (0, 45, .agg #[.string ⟨#[99]⟩, .int .u8 4, .int .i64 64, .int .i64 0, .int .i64 0, .slice A N c, .slice B' 0 d])) 0 rfl rfl (hon 0 (by kernel_rfl)) rfl
              have e51 : a.tmps[51]? = some (.agg #[.int .i64 8, .int .u64 0, .int .u64 (m : Int)]) := by rw [ha]; exact putSel_on (e := (6, 51, .agg #[.int .i64 8, .int .u64 0, .int .u64 (m : Int)])) 6 rfl rfl (hon 6 (by kernel_rfl)) rfl
              replace ha := Aside0.mk ha
              have FB := Aside0.mk Q_FB
              refine goes_ Try.func10 (by kernel_rfl) rfl #[.agg #[.string ⟨#[99]⟩, .int .u8 4, .int .i64 64, .int .i64 0, .int .i64 0, .slice A N c, .slice B' 0 d], .agg #[.int .i64 8, .int .u64 0, .int .u64 (m : Int)]] (by rfl) rfl rfl (by first | (simp only [List.map_toArray, List.map_cons, List.map_nil, Act.eval, Array.getD_eq_getD_getElem?, Option.getD_some, e45, e51]; done) | (simp only [List.map_toArray, List.map_cons, List.map_nil, Act.eval, Array.getD_eq_getD_getElem?, Option.getD_some, e45, e51]; rfl)) ?_
              refine Calls.mono (HCI.out w' FB.out) ?_
              rintro e wX ⟨g1, B1, rfl, hg0, hgR, hb⟩
              have hfb := FB.out.trans (hb.mono FB.out.size)
              have hsz := FB.out.size
              have hglt := nums_lt hgR _ rfl (by omega)
              refine ⟨_, rfl, ?_⟩
              have z_FZ := fun (h0_ : up b 7 11 = true) (h1_ : up b 7 12 = false) => (show wX.heap[p]? = some (.cells #[.string ⟨#[]⟩, .int .u8 0, .int .i64 0, .int .i64 0, .int .i64 0, .slice none 0 0, .slice none 0 0] 38 (0, 0)) from (hb.block _ (Array.getElem?_eq_some_iff.1 (Q_FZ h0_ h1_)).1).trans (Q_FZ h0_ h1_))
              have z_FN := fun (h0_ : up b 7 7 = true) (h1_ : up b 7 11 = true) => (show ¬ p = g1 from by have h := (Array.getElem?_eq_some_iff.1 (Q_FZ h1_ (hoff 12 (by kernel_rfl)))).1; omega)
              refine hK.out _ _ ⟨g1, B1, p, (.tuple #[.agg #[.string ⟨#[99]⟩, .int .u8 4, .int .i64 64, .int .i64 0, .int .i64 0, .slice (some ⟨g1, 0, none⟩) N N, .slice B1 0 0], .int .i64 0]), m8_, m9_, m11_, (by rw [ha.out]; exact putSel_upk 7 hb_ rfl rfl rfl), hfb, z_FZ, fun h0_ => absurd ((hoff 12 (by kernel_rfl)).symm.trans h0_) (by decide), Q_FP, fun _ => ⟨by omega, hglt⟩, fun _ => hgR, fun _ _ => (by apply z_FN <;> assumption), fun _ => rfl, fun h0_ => absurd ((hoff 8 (by kernel_rfl)).symm.trans h0_) (by decide), fun h0_ => absurd ((hoff 9 (by kernel_rfl)).symm.trans h0_) (by decide), Q_X11_⟩
            refine steps_cons ?_ ?_
            · rintro b a w' ⟨g, B2, p, m7_, m8_, m9_, m11_, ha, Q_FB, Q_FZ, Q_FS, Q_FP, Q_FG, Q_FR, Q_FN, Q_X7_, Q_X8_, Q_X9_, Q_X11_⟩ hb_ hon hoff
              refine ⟨_, rfl, fun K hK => ?_⟩
              have e52 : a.tmps[52]? = some (m7_) := by rw [ha]; exact putSel_on (e := (7, 52, m7_)) 7 rfl rfl (hon 7 (by kernel_rfl)) rfl
              rw [Q_X7_ (hon 7 (by kernel_rfl))] at e52
              replace ha := Aside0.mk ha
              have FB := Aside0.mk Q_FB
              have FG := Aside0.mk (Q_FG (hon 7 (by kernel_rfl)))
              have FR := Aside0.mk (Q_FR (hon 7 (by kernel_rfl)))
              refine value_ (w1 := w') (v := .tuple #[.agg #[.string ⟨#[99]⟩, .int .u8 4, .int .i64 64, .int .i64 0, .int .i64 0, .slice (some ⟨g, 0, none⟩) N N, .slice B2 0 0], .int .i64 0]) (by rfl) rfl ?_ ?_
              · go_simp
                (try simp only [i64_w])
                try rfl
              refine hK.out _ _ ⟨g, B2, p, m7_, (.tuple #[.agg #[.string ⟨#[99]⟩, .int .u8 4, .int .i64 64, .int .i64 0, .int .i64 0, .slice (some ⟨g, 0, none⟩) N N, .slice B2 0 0], .int .i64 0]), m9_, m11_, (by rw [ha.out]; exact putSel_upk 8 hb_ rfl rfl rfl), Q_FB, Q_FZ, fun h0_ => absurd ((hoff 12 (by kernel_rfl)).symm.trans h0_) (by decide), Q_FP, Q_FG, Q_FR, Q_FN, Q_X7_, fun _ => rfl, fun h0_ => absurd ((hoff 9 (by kernel_rfl)).symm.trans h0_) (by decide), Q_X11_⟩
            refine steps_cons ?_ ?_
            · rintro b a w' ⟨g, B2, p, m7_, m8_, m9_, m11_, ha, Q_FB, Q_FZ, Q_FS, Q_FP, Q_FG, Q_FR, Q_FN, Q_X7_, Q_X8_, Q_X9_, Q_X11_⟩ hb_ hon hoff
              refine ⟨_, rfl, fun K hK => ?_⟩
              have e44 : a.tmps[44]? = some (m8_) := by rw [ha]; exact putSel_on (e := (8, 44, m8_)) 8 rfl rfl (hon 8 (by kernel_rfl)) rfl
              rw [Q_X8_ (hon 8 (by kernel_rfl))] at e44
              replace ha := Aside0.mk ha
              have FB := Aside0.mk Q_FB
              have FG := Aside0.mk (Q_FG (hon 7 (by kernel_rfl)))
              have FR := Aside0.mk (Q_FR (hon 7 (by kernel_rfl)))
              refine value_ (w1 := w') (v := .agg #[.string ⟨#[99]⟩, .int .u8 4, .int .i64 64, .int .i64 0, .int .i64 0, .slice (some ⟨g, 0, none⟩) N N, .slice B2 0 0]) (by rfl) rfl ?_ ?_
              · go_simp
                (try simp only [i64_w])
                try rfl
              refine hK.out _ _ ⟨g, B2, p, m7_, m8_, (.agg #[.string ⟨#[99]⟩, .int .u8 4, .int .i64 64, .int .i64 0, .int .i64 0, .slice (some ⟨g, 0, none⟩) N N, .slice B2 0 0]), m11_, (by rw [ha.out]; exact putSel_upk 9 hb_ rfl rfl rfl), Q_FB, Q_FZ, fun h0_ => absurd ((hoff 12 (by kernel_rfl)).symm.trans h0_) (by decide), Q_FP, Q_FG, Q_FR, Q_FN, Q_X7_, Q_X8_, fun _ => rfl, Q_X11_⟩
            refine steps_cons ?_ ?_
            · rintro b a w' ⟨g, B2, p, m7_, m8_, m9_, m11_, ha, Q_FB, Q_FZ, Q_FS, Q_FP, Q_FG, Q_FR, Q_FN, Q_X7_, Q_X8_, Q_X9_, Q_X11_⟩ hb_ hon hoff
              refine ⟨_, rfl, fun K hK => ?_⟩
              have e44 : a.tmps[44]? = some (m8_) := by rw [ha]; exact putSel_on (e := (8, 44, m8_)) 8 rfl rfl (hon 8 (by kernel_rfl)) rfl
              rw [Q_X8_ (hon 8 (by kernel_rfl))] at e44
              replace ha := Aside0.mk ha
              have FB := Aside0.mk Q_FB
              have FG := Aside0.mk (Q_FG (hon 7 (by kernel_rfl)))
              have FR := Aside0.mk (Q_FR (hon 7 (by kernel_rfl)))
              refine value_ (w1 := w') (v := .int .i64 0) (by rfl) rfl ?_ ?_
              · go_simp
                (try simp only [i64_w])
                try rfl
              refine hK.out _ _ ⟨g, B2, p, m7_, m8_, m9_, m11_, (by rw [ha.out]; exact putSel_upk 10 hb_ rfl rfl rfl), Q_FB, Q_FZ, Q_FS, Q_FP, Q_FG, Q_FR, Q_FN, Q_X7_, Q_X8_, Q_X9_, Q_X11_⟩
            refine steps_cons ?_ ?_
            · rintro b a w' ⟨g, B2, p, m7_, m8_, m9_, m11_, ha, Q_FB, Q_FZ, Q_FS, Q_FP, Q_FG, Q_FR, Q_FN, Q_X7_, Q_X8_, Q_X9_, Q_X11_⟩ hb_ hon hoff
              refine ⟨_, rfl, fun K hK => ?_⟩
              replace ha := Aside0.mk ha
              have FB := Aside0.mk Q_FB
              have hal := (Below.refl w'.heap.size w').alloc (Nat.le_refl _) (.cells #[.string ⟨#[]⟩, .int .u8 0, .int .i64 0, .int .i64 0, .int .i64 0, .slice none 0 0, .slice none 0 0] 38)
              have hfb := FB.out.trans (hal.mono FB.out.size)
              refine value_ (w1 := w'.alloc (.cells #[.string ⟨#[]⟩, .int .u8 0, .int .i64 0, .int .i64 0, .int .i64 0, .slice none 0 0, .slice none 0 0] 38)) (v := .pointer (some ⟨w'.heap.size, 0, none⟩)) (by rfl) rfl ?_ ?_
              · go_simp
                try rfl
              have z_FG := fun (h0_ : up b 11 7 = true) => (show wr.heap.size ≤ g ∧ g < (w'.alloc (.cells #[.string ⟨#[]⟩, .int .u8 0, .int .i64 0, .int .i64 0, .int .i64 0, .slice none 0 0, .slice none 0 0] 38)).heap.size from ⟨(Q_FG h0_).1, Nat.lt_of_lt_of_le (Q_FG h0_).2 hal.size⟩)
              have z_FR := fun (h0_ : up b 11 7 = true) => (show ReadsNums (w'.alloc (.cells #[.string ⟨#[]⟩, .int .u8 0, .int .i64 0, .int .i64 0, .int .i64 0, .slice none 0 0, .slice none 0 0] 38)) (some ⟨g, 0, none⟩) N (cntN ((W.set m (W.getD m 0 + 1)).take N)) from (Q_FR h0_).below hal)
              have z_FN := fun (h0_ : up b 11 7 = true) (_ : up b 11 11 = true) => (show ¬ w'.heap.size = g from by have := (Q_FG h0_).2; omega)
              refine hK.out _ _ ⟨g, B2, w'.heap.size, m7_, m8_, m9_, (.pointer (some ⟨w'.heap.size, 0, none⟩)), (by rw [ha.out]; exact putSel_upk 11 hb_ rfl rfl rfl), hfb, fun _ _ => heap_alloc_new _ _, fun h0_ => absurd ((hoff 12 (by kernel_rfl)).symm.trans h0_) (by decide), fun _ => FB.out.size, z_FG, z_FR, fun _ _ => (by apply z_FN <;> assumption), Q_X7_, Q_X8_, Q_X9_, fun _ => rfl⟩
            refine steps_cons ?_ ?_
            · rintro b a w' ⟨g, B2, p, m7_, m8_, m9_, m11_, ha, Q_FB, Q_FZ, Q_FS, Q_FP, Q_FG, Q_FR, Q_FN, Q_X7_, Q_X8_, Q_X9_, Q_X11_⟩ hb_ hon hoff
              refine ⟨_, rfl, fun K hK => ?_⟩
              have e10 : a.tmps[10]? = some (m11_) := by rw [ha]; exact putSel_on (e := (11, 10, m11_)) 11 rfl rfl (hon 11 (by kernel_rfl)) rfl
              rw [Q_X11_ (hon 11 (by kernel_rfl))] at e10
              have e53 : a.tmps[53]? = some (m9_) := by rw [ha]; exact putSel_on (e := (9, 53, m9_)) 9 rfl rfl (hon 9 (by kernel_rfl)) rfl
              rw [Q_X9_ (hon 9 (by kernel_rfl))] at e53
              replace ha := Aside0.mk ha
              have FB := Aside0.mk Q_FB
              have FZ := Aside0.mk (Q_FZ (hon 11 (by kernel_rfl)) hb_)
              have FP := Aside0.mk (Q_FP (hon 11 (by kernel_rfl)))
              have FG := Aside0.mk (Q_FG (hon 7 (by kernel_rfl)))
              have FR := Aside0.mk (Q_FR (hon 7 (by kernel_rfl)))
              have FN := Aside0.mk (Q_FN (hon 7 (by kernel_rfl)) (hon 11 (by kernel_rfl)))
              obtain ⟨⟨z0, z1, z2⟩, z3, z4, z5, z6⟩ := cells7' (aside FZ.out)
              have fz := frozenOf FZ.out
              have hF := ((((((((Foot.refl (fun i => i = p) w').setCell (p := ⟨p, 0, none⟩) (.inl rfl) (.string ⟨#[99]⟩)).setCell (p := ⟨p, 1, none⟩) (.inl rfl) (.int .u8 4)).setCell (p := ⟨p, 2, none⟩) (.inl rfl) (.int .i64 64)).setCell (p := ⟨p, 3, none⟩) (.inl rfl) (.int .i64 0)).setCell (p := ⟨p, 4, none⟩) (.inl rfl) (.int .i64 0)).setCell (p := ⟨p, 5, none⟩) (.inl rfl) (.slice (some ⟨g, 0, none⟩) N N)).setCell (p := ⟨p, 6, none⟩) (.inl rfl) (.slice B2 0 0))
              have hfs := set7 FZ.out (.string ⟨#[99]⟩) (.int .u8 4) (.int .i64 64) (.int .i64 0) (.int .i64 0) (.slice (some ⟨g, 0, none⟩) N N) (.slice B2 0 0)
              refine skip_ (w1 := (((((((w'.setCell ⟨p, 0, none⟩ (.string ⟨#[99]⟩)).setCell ⟨p, 1, none⟩ (.int .u8 4)).setCell ⟨p, 2, none⟩ (.int .i64 64)).setCell ⟨p, 3, none⟩ (.int .i64 0)).setCell ⟨p, 4, none⟩ (.int .i64 0)).setCell ⟨p, 5, none⟩ (.slice (some ⟨g, 0, none⟩) N N)).setCell ⟨p, 6, none⟩ (.slice B2 0 0))) (by rfl) rfl ?_ ?_
              · go_simp
                try rfl
              refine hK.out _ _ ⟨g, B2, p, m7_, m8_, m9_, m11_, (by rw [ha.out]; exact putSel_none (v := undef) rfl), (((((((FB.out.setCell (p := ⟨p, 0, none⟩) FP.out (.string ⟨#[99]⟩)).setCell (p := ⟨p, 1, none⟩) FP.out (.int .u8 4)).setCell (p := ⟨p, 2, none⟩) FP.out (.int .i64 64)).setCell (p := ⟨p, 3, none⟩) FP.out (.int .i64 0)).setCell (p := ⟨p, 4, none⟩) FP.out (.int .i64 0)).setCell (p := ⟨p, 5, none⟩) FP.out (.slice (some ⟨g, 0, none⟩) N N)).setCell (p := ⟨p, 6, none⟩) FP.out (.slice B2 0 0)), fun _ h1_ => absurd ((up_self b 12).symm.trans h1_) (by decide), fun _ => hfs, Q_FP, fun _ => ⟨FG.out.1, Nat.lt_of_lt_of_le FG.out.2 hF.size⟩, fun _ => nums_foot FR.out hF (fun ad e h => by cases e; exact FN.out h.symm), Q_FN, Q_X7_, Q_X8_, Q_X9_, Q_X11_⟩
            refine steps_cons ?_ ?_
            · rintro b a w' ⟨g, B2, p, m7_, m8_, m9_, m11_, ha, Q_FB, Q_FZ, Q_FS, Q_FP, Q_FG, Q_FR, Q_FN, Q_X7_, Q_X8_, Q_X9_, Q_X11_⟩ hb_ hon hoff
              refine ⟨_, rfl, fun K hK => ?_⟩
              have e54 : a.tmps[54]? = some (.int .i64 0) := by rw [ha]; exact putSel_on (e := (10, 54, .int .i64 0)) 10 rfl rfl (hon 10 (by kernel_rfl)) rfl
              replace ha := Aside0.mk ha
              have FB := Aside0.mk Q_FB
              have FS := Aside0.mk (Q_FS (hon 12 (by kernel_rfl)))
              have FP := Aside0.mk (Q_FP (hon 11 (by kernel_rfl)))
              have FG := Aside0.mk (Q_FG (hon 7 (by kernel_rfl)))
              have FR := Aside0.mk (Q_FR (hon 7 (by kernel_rfl)))
              have FN := Aside0.mk (Q_FN (hon 7 (by kernel_rfl)) (hon 11 (by kernel_rfl)))
              refine value_ (w1 := w') (v := .int .i64 0) (by rfl) rfl ?_ ?_
              · go_simp
                (try simp only [i64_w])
                try rfl
              refine hK.out _ _ ⟨g, B2, p, m7_, m8_, m9_, m11_, (by rw [ha.out]; exact putSel_upk 12 hb_ rfl rfl rfl), Q_FB, fun _ h1_ => absurd ((hon 12 (by kernel_rfl)).symm.trans h1_) (by decide), Q_FS, Q_FP, Q_FG, Q_FR, Q_FN, Q_X7_, Q_X8_, Q_X9_, Q_X11_⟩
            exact steps_nil
          · rintro b a w' hall ⟨g, B2, p, m7_, m8_, m9_, m11_, ha, Q_FB, Q_FZ, Q_FS, Q_FP, Q_FG, Q_FR, Q_FN, Q_X7_, Q_X8_, Q_X9_, Q_X11_⟩
            clear FB
            have hb0_ := hall 0 (by kernel_rfl)
            have hb1_ := hall 1 (by kernel_rfl)
            have hb2_ := hall 2 (by kernel_rfl)
            have hb3_ := hall 3 (by kernel_rfl)
            have hb4_ := hall 4 (by kernel_rfl)
            have hb5_ := hall 5 (by kernel_rfl)
            have hb6_ := hall 6 (by kernel_rfl)
            have hb7_ := hall 7 (by kernel_rfl)
            have hb8_ := hall 8 (by kernel_rfl)
            have hb9_ := hall 9 (by kernel_rfl)
            have hb10_ := hall 10 (by kernel_rfl)
            have hb11_ := hall 11 (by kernel_rfl)
            have hb12_ := hall 12 (by kernel_rfl)
            have hb13_ := hall 13 (by kernel_rfl)
            subst ha
            obtain rfl := Q_X7_ hb7_
            obtain rfl := Q_X8_ hb8_
            obtain rfl := Q_X9_ hb9_
            obtain rfl := Q_X11_ hb11_
            simp only [putSel, hb0_, hb1_, hb2_, hb3_, hb4_, hb5_, hb6_, hb7_, hb8_, hb9_, hb10_, hb11_, hb12_, hb13_, if_true, Act.put, List.setIfInBounds_toArray, List.set_cons_zero, List.set_cons_succ]
            have FB := Aside0.mk Q_FB
            clear Q_FB
            clear Q_FZ
            have FS := Aside0.mk (Q_FS hb12_)
            clear Q_FS
            have FP := Aside0.mk (Q_FP hb11_)
            clear Q_FP
            have FG := Aside0.mk (Q_FG hb7_)
            clear Q_FG
            have FR := Aside0.mk (Q_FR hb7_)
            clear Q_FR
            have FN := Aside0.mk (Q_FN hb7_ hb11_)
            clear Q_FN
            clear hall hb0_ hb1_ hb2_ hb3_ hb4_ hb5_ hb6_ hb7_ hb8_ hb9_ hb10_ hb11_ hb12_ hb13_
            have hcx2 : w'.cell? ⟨xb, xo + k, none⟩ = some (.int .u8 (m : Int)) := (FB.out.cell (World.block_lt_of_cell? _ _ hcx)).trans hcx
            have HBX := carryB (aside HM.out.box) FB.out
            have HWT := carryB (aside HM.out.want) FB.out
            obtain ⟨⟨z0, z1, z2⟩, z3, z4, z5, z6⟩ := cells7' (aside FS.out)
            obtain ⟨⟨y0, y1, y2⟩, y3, y4, y5, y6⟩ := cells7' HBX
            have fy := frozenOf HBX.out
            have fw := frozenOf HWT.out
            have hwm : w'.cell? ⟨w1.heap.size + 1, m, none⟩ = some (.int .u64 Lm) := (cellOf HWT.out m).trans (by rw [List.getElem?_toArray, nums_get _ W m (by rw [HW.out.1]; exact hm256), HLm.out])
            have hpg : wr.heap.size ≤ p := FP.out
            have hpl1 : w1.heap.size < wr.heap.size := (Array.getElem?_eq_some_iff.1 HM.out.box).1
            have hpl2 : w1.heap.size + 1 < wr.heap.size := (Array.getElem?_eq_some_iff.1 HM.out.want).1
            have hgg := FG.out.1
            have hwu : IntKind.u64.wrap (Lm + 1) = Lm + 1 := by rw [IntKind.wrap_u64]; omega
            have x1 : ¬ xb = w1.heap.size := by omega
            have x2 : ¬ w1.heap.size = xb := by omega
            have x3 : ¬ xb = w1.heap.size + 1 := by omega
            have x4 : ¬ w1.heap.size + 1 = xb := by omega
            have x5 : ¬ w1.heap.size = w1.heap.size + 1 := by omega
            have x6 : ¬ w1.heap.size + 1 = w1.heap.size := by omega
            have x7 : ¬ p = w1.heap.size := by omega
            have x8 : ¬ w1.heap.size = p := by omega
            clear HCI hHeld HT_ HW_
            go_wp2_with fail
            go_roundw
            case rel =>
              refine ⟨k + 1, W.set m (Lm + 1), some ⟨g, 0, none⟩, N, B2, 0, by omega, by go_num, ⟨by simpa using HW.out.1, fun j hj => ?_⟩, ?_, ?_⟩
              · have hj2 := HW.out.2 j hj
                by_cases hjm : j = m
                · subst hjm
                  rw [show (W.set j (Lm + 1)).getD j 0 = Lm + 1 by simp [List.getD_eq_getElem?_getD, HW.out.1, hm256]]
                  have := HLm.out
                  rw [this] at hj2
                  omega
                · rw [show (W.set m (Lm + 1)).getD j 0 = W.getD j 0 by simp [List.getD_eq_getElem?_getD, List.getElem?_set_ne (Ne.symm hjm)]]
                  omega
              · have hF := (((((((((Foot.refl (fun i => i = w1.heap.size ∨ i = w1.heap.size + 1) w').setCell (p := ⟨w1.heap.size, 0, none⟩) (.inl (.inl rfl)) (.string ⟨#[99]⟩)).setCell (p := ⟨w1.heap.size, 1, none⟩) (.inl (.inl rfl)) (.int .u8 4)).setCell (p := ⟨w1.heap.size, 2, none⟩) (.inl (.inl rfl)) (.int .i64 64)).setCell (p := ⟨w1.heap.size, 3, none⟩) (.inl (.inl rfl)) (.int .i64 0)).setCell (p := ⟨w1.heap.size, 4, none⟩) (.inl (.inl rfl)) (.int .i64 0)).setCell (p := ⟨w1.heap.size, 5, none⟩) (.inl (.inl rfl)) (.slice (some ⟨g, 0, none⟩) N N)).setCell (p := ⟨w1.heap.size, 6, none⟩) (.inl (.inl rfl)) (.slice B2 0 0)).setCell (p := ⟨w1.heap.size + 1, m, none⟩) (.inl (.inr rfl)) (.int .u64 (Lm + 1)))
                have hW2 := setCell_heap (setOther (setOther (setOther (setOther (setOther (setOther (setOther HWT (p := ⟨w1.heap.size, 0, none⟩) (v := (.string ⟨#[99]⟩)) (by show w1.heap.size ≠ w1.heap.size + 1; omega)) (p := ⟨w1.heap.size, 1, none⟩) (v := (.int .u8 4)) (by show w1.heap.size ≠ w1.heap.size + 1; omega)) (p := ⟨w1.heap.size, 2, none⟩) (v := (.int .i64 64)) (by show w1.heap.size ≠ w1.heap.size + 1; omega)) (p := ⟨w1.heap.size, 3, none⟩) (v := (.int .i64 0)) (by show w1.heap.size ≠ w1.heap.size + 1; omega)) (p := ⟨w1.heap.size, 4, none⟩) (v := (.int .i64 0)) (by show w1.heap.size ≠ w1.heap.size + 1; omega)) (p := ⟨w1.heap.size, 5, none⟩) (v := (.slice (some ⟨g, 0, none⟩) N N)) (by show w1.heap.size ≠ w1.heap.size + 1; omega)) (p := ⟨w1.heap.size, 6, none⟩) (v := (.slice B2 0 0)) (by show w1.heap.size ≠ w1.heap.size + 1; omega)) m (.int .u64 (Lm + 1))
                have e2 : (nums .u64 W).toArray.setIfInBounds m (.int .u64 (Lm + 1)) = (nums .u64 (W.set m (Lm + 1))).toArray := by simp [nums, List.map_set]
                rw [e2] at hW2
                have hRR := FR.out
                rw [HLm.out] at hRR
                exact ⟨setOther (set7 HBX.out _ _ _ _ _ _ _) (by show w1.heap.size + 1 ≠ w1.heap.size; omega), hW2, nums_foot hRR hF (fun ad e h => by cases e; rcases h with h | h <;> (have h' : g = _ := h; omega)), fun _ => rfl, fun ad e => by cases e; exact ⟨by show g ≠ _; omega, by show g ≠ _; omega⟩⟩
              · exact (((((((((HB.out.trans (FB.out.mono HB.out.size)).setCell (p := ⟨w1.heap.size, 0, none⟩) hws (.string ⟨#[99]⟩)).setCell (p := ⟨w1.heap.size, 1, none⟩) hws (.int .u8 4)).setCell (p := ⟨w1.heap.size, 2, none⟩) hws (.int .i64 64)).setCell (p := ⟨w1.heap.size, 3, none⟩) hws (.int .i64 0)).setCell (p := ⟨w1.heap.size, 4, none⟩) hws (.int .i64 0)).setCell (p := ⟨w1.heap.size, 5, none⟩) hws (.slice (some ⟨g, 0, none⟩) N N)).setCell (p := ⟨w1.heap.size, 6, none⟩) hws (.slice B2 0 0)).setCell (p := ⟨w1.heap.size + 1, m, none⟩) (by show w.heap.size ≤ w1.heap.size + 1; omega) (.int .u64 (Lm + 1)))
            case measure => (simp [intOf]; omega)
        · have HCI := aside (fun V (h : Below wr.heap.size wr V) => Count_cnt_out N W HW.out.1 hN1 hWb m (by omega) (by omega) A c B' d HM.out.hd V (HM.out.hR.below h))
          have hmd : decide ((m : Int) < (N : Int)) = false := decide_eq_false (by omega)
          clear hWb hLb
          go_wp2_with fail
          refine start_ (n := 14) (S := fun w' => True) (ds := []) #[false, false, false, false, false, false, false, false, false, false, false, false, false, false] (by kernel_rfl) rfl rfl trivial (fun hHeld => ?_)
          refine with_tabW apart10.tab10 apart10.bits10 (fun HT_ HW_ => ?_)
          refine inv_at [0, 1, 2, 3, 4, 5, 6, 7, 8, 9, 10, 11, 12, 13] (fun a0_ b a w' => ∃ (p : Nat) (m11_ : Value), a = putSel a0_ b [(0, 45, .agg #[.string ⟨#[99]⟩, .int .u8 4, .int .i64 64, .int .i64 0, .int .i64 0, .slice A N c, .slice B' 0 d]), (1, 46, .slice (some ⟨xb, xo, none⟩) n c_), (2, 47, .int .i64 (k : Int)), (3, 48, .pointer (some ⟨xb, xo + k, none⟩)), (4, 49, .int .u8 (m : Int)), (5, 50, .int .u64 (m : Int)), (6, 51, .agg #[.int .i64 8, .int .u64 0, .int .u64 (m : Int)]), (7, 52, .tuple #[.agg #[.string ⟨#[]⟩, .int .u8 0, .int .i64 0, .int .i64 0, .int .i64 0, .slice none 0 0, .slice none 0 0], .int .i64 11]), (8, 44, .tuple #[.agg #[.string ⟨#[]⟩, .int .u8 0, .int .i64 0, .int .i64 0, .int .i64 0, .slice none 0 0, .slice none 0 0], .int .i64 11]), (9, 53, .agg #[.string ⟨#[]⟩, .int .u8 0, .int .i64 0, .int .i64 0, .int .i64 0, .slice none 0 0, .slice none 0 0]), (10, 54, .int .i64 11), (11, 10, m11_), (13, 11, .int .i64 11)] ∧ (Below wr.heap.size wr w') ∧ (b 11 = true → b 12 = false → w'.heap[p]? = some (.cells #[.string ⟨#[]⟩, .int .u8 0, .int .i64 0, .int .i64 0, .int .i64 0, .slice none 0 0, .slice none 0 0] 38 (0, 0))) ∧ (b 12 = true → w'.heap[p]? = some (.cells #[.string ⟨#[]⟩, .int .u8 0, .int .i64 0, .int .i64 0, .int .i64 0, .slice none 0 0, .slice none 0 0] 38 (0, 0))) ∧ (b 11 = true → wr.heap.size ≤ p) ∧ (b 11 = true → (m11_ : Value) = .pointer (some ⟨p, 0, none⟩))) HT_.out HW_.out (by kernel_rfl) (by kernel_rfl) ?_ ?_ ?_
          · exact ⟨0, .bool false, by simp only [putSel, Bool.false_eq_true, if_false], FB.out, fun h_ => absurd h_ (by decide), fun h_ => absurd h_ (by decide), fun h_ => absurd h_ (by decide), fun h_ => absurd h_ (by decide)⟩
          · skip
            clear FB
            refine steps_cons ?_ ?_
            · rintro b a w' ⟨p, m11_, ha, Q_FB, Q_FZ, Q_FS, Q_FP, Q_X11_⟩ hb_ hon hoff
              refine ⟨_, rfl, fun K hK => ?_⟩
              have e7 : a.tmps[7]? = some (.pointer (some ⟨w1.heap.size, 0, none⟩)) := by rw [ha]; exact (putSel_off rfl).trans rfl
              replace ha := Aside0.mk ha
              have FB := Aside0.mk Q_FB
              obtain ⟨⟨m0, m1, m2⟩, m3, m4, m5, m6⟩ := cells7' (aside ((FB.out.block _ (Array.getElem?_eq_some_iff.1 HM.out.box).1).trans HM.out.box))
              refine value_ (w1 := w') (v := .agg #[.string ⟨#[99]⟩, .int .u8 4, .int .i64 64, .int .i64 0, .int .i64 0, .slice A N c, .slice B' 0 d]) (by rfl) rfl ?_ ?_
              · go_simp
                (try simp only [i64_w])
                try rfl
              refine hK.out _ _ ⟨p, m11_, (by rw [ha.out]; exact putSel_upk 0 hb_ rfl rfl rfl), Q_FB, Q_FZ, fun h0_ => absurd ((hoff 12 (by kernel_rfl)).symm.trans h0_) (by decide), Q_FP, Q_X11_⟩
            refine steps_cons ?_ ?_
            · rintro b a w' ⟨p, m11_, ha, Q_FB, Q_FZ, Q_FS, Q_FP, Q_X11_⟩ hb_ hon hoff
              refine ⟨_, rfl, fun K hK => ?_⟩
              have e1 : a.tmps[1]? = some (.slice (some ⟨xb, xo, none⟩) n c_) := by rw [ha]; exact (putSel_off rfl).trans rfl
              replace ha := Aside0.mk ha
              have FB := Aside0.mk Q_FB
              refine value_ (w1 := w') (v := .slice (some ⟨xb, xo, none⟩) n c_) (by rfl) rfl ?_ ?_
              · go_simp
                (try simp only [i64_w])
                try rfl
              refine hK.out _ _ ⟨p, m11_, (by rw [ha.out]; exact putSel_upk 1 hb_ rfl rfl rfl), Q_FB, Q_FZ, fun h0_ => absurd ((hoff 12 (by kernel_rfl)).symm.trans h0_) (by decide), Q_FP, Q_X11_⟩
            refine steps_cons ?_ ?_
            · rintro b a w' ⟨p, m11_, ha, Q_FB, Q_FZ, Q_FS, Q_FP, Q_X11_⟩ hb_ hon hoff
              refine ⟨_, rfl, fun K hK => ?_⟩
              have e9 : a.tmps[9]? = some (.int .i64 (k : Int)) := by rw [ha]; exact (putSel_off rfl).trans rfl
              replace ha := Aside0.mk ha
              have FB := Aside0.mk Q_FB
              refine value_ (w1 := w') (v := .int .i64 (k : Int)) (by rfl) rfl ?_ ?_
              · go_simp
                (try simp only [i64_w])
                try rfl
              refine hK.out _ _ ⟨p, m11_, (by rw [ha.out]; exact putSel_upk 2 hb_ rfl rfl rfl), Q_FB, Q_FZ, fun h0_ => absurd ((hoff 12 (by kernel_rfl)).symm.trans h0_) (by decide), Q_FP, Q_X11_⟩
            refine steps_cons ?_ ?_
            · rintro b a w' ⟨p, m11_, ha, Q_FB, Q_FZ, Q_FS, Q_FP, Q_X11_⟩ hb_ hon hoff
              refine ⟨_, rfl, fun K hK => ?_⟩
              have e46 : a.tmps[46]? = some (.slice (some ⟨xb, xo, none⟩) n c_) := by rw [ha]; exact putSel_on (e := (1, 46, .slice (some ⟨xb, xo, none⟩) n c_)) 1 rfl rfl (hon 1 (by kernel_rfl)) rfl
              have e47 : a.tmps[47]? = some (.int .i64 (k : Int)) := by rw [ha]; exact putSel_on (e := (2, 47, .int .i64 (k : Int))) 2 rfl rfl (hon 2 (by kernel_rfl)) rfl
              replace ha := Aside0.mk ha
              have FB := Aside0.mk Q_FB
              refine value_ (w1 := w') (v := .pointer (some ⟨xb, xo + k, none⟩)) (by rfl) rfl ?_ ?_
              · go_simp
                (try simp only [i64_w])
                try rfl
              refine hK.out _ _ ⟨p, m11_, (by rw [ha.out]; exact putSel_upk 3 hb_ rfl rfl rfl), Q_FB, Q_FZ, fun h0_ => absurd ((hoff 12 (by kernel_rfl)).symm.trans h0_) (by decide), Q_FP, Q_X11_⟩
            refine steps_cons ?_ ?_
            · rintro b a w' ⟨p, m11_, ha, Q_FB, Q_FZ, Q_FS, Q_FP, Q_X11_⟩ hb_ hon hoff
              refine ⟨_, rfl, fun K hK => ?_⟩
              have e48 : a.tmps[48]? = some (.pointer (some ⟨xb, xo + k, none⟩)) := by rw [ha]; exact putSel_on (e := (3, 48, .pointer (some ⟨xb, xo + k, none⟩))) 3 rfl rfl (hon 3 (by kernel_rfl)) rfl
              replace ha := Aside0.mk ha
              have FB := Aside0.mk Q_FB
              have hc4_ : w'.cell? ⟨xb, xo + k, none⟩ = some (.int .u8 (m : Int)) := (FB.out.cell (World.block_lt_of_cell? _ _ hcx)).trans hcx
              refine value_ (w1 := w') (v := .int .u8 (m : Int)) (by rfl) rfl ?_ ?_
              · go_simp
                (try simp only [i64_w])
                try rfl
              refine hK.out _ _ ⟨p, m11_, (by rw [ha.out]; exact putSel_upk 4 hb_ rfl rfl rfl), Q_FB, Q_FZ, fun h0_ => absurd ((hoff 12 (by kernel_rfl)).symm.trans h0_) (by decide), Q_FP, Q_X11_⟩
            refine steps_cons ?_ ?_
            · rintro b a w' ⟨p, m11_, ha, Q_FB, Q_FZ, Q_FS, Q_FP, Q_X11_⟩ hb_ hon hoff
              refine ⟨_, rfl, fun K hK => ?_⟩
              have e49 : a.tmps[49]? = some (.int .u8 (m : Int)) := by rw [ha]; exact putSel_on (e := (4, 49, .int .u8 (m : Int))) 4 rfl rfl (hon 4 (by kernel_rfl)) rfl
              replace ha := Aside0.mk ha
              have FB := Aside0.mk Q_FB
              refine value_ (w1 := w') (v := .int .u64 (m : Int)) (by rfl) rfl ?_ ?_
              · go_simp
                (try simp only [i64_w])
                try rfl
              refine hK.out _ _ ⟨p, m11_, (by rw [ha.out]; exact putSel_upk 5 hb_ rfl rfl rfl), Q_FB, Q_FZ, fun h0_ => absurd ((hoff 12 (by kernel_rfl)).symm.trans h0_) (by decide), Q_FP, Q_X11_⟩
            refine steps_cons ?_ ?_
            · rintro b a w' ⟨p, m11_, ha, Q_FB, Q_FZ, Q_FS, Q_FP, Q_X11_⟩ hb_ hon hoff
              refine ⟨_, rfl, fun K hK => ?_⟩
              have e50 : a.tmps[50]? = some (.int .u64 (m : Int)) := by rw [ha]; exact putSel_on (e := (5, 50, .int .u64 (m : Int))) 5 rfl rfl (hon 5 (by kernel_rfl)) rfl
              replace ha := Aside0.mk ha
              have FB := Aside0.mk Q_FB
              refine value_ (w1 := w') (v := .agg #[.int .i64 8, .int .u64 0, .int .u64 (m : Int)]) (by rfl) rfl ?_ ?_
              · go_simp
                (try simp only [i64_w])
                try rfl
              refine hK.out _ _ ⟨p, m11_, (by rw [ha.out]; exact putSel_upk 6 hb_ rfl rfl rfl), Q_FB, Q_FZ, fun h0_ => absurd ((hoff 12 (by kernel_rfl)).symm.trans h0_) (by decide), Q_FP, Q_X11_⟩
            refine steps_cons ?_ ?_
            · rintro b a w' ⟨p, m11_, ha, Q_FB, Q_FZ, Q_FS, Q_FP, Q_X11_⟩ hb_ hon hoff
              refine ⟨_, rfl, fun K hK => ?_⟩
              have e45 : a.tmps[45]? = some (.agg #[.string ⟨#[99]⟩, .int .u8 4, .int .i64 64, .int .i64 0, .int .i64 0, .slice A N c, .slice B' 0 d]) := by rw [ha]; exact putSel_on (e := (0, 45, .agg #[.string ⟨#[99]⟩, .int .u8 4, .int .i64 64, .int .i64 0, .int .i64 0, .slice A N c, .slice B' 0 d])) 0 rfl rfl (hon 0 (by kernel_rfl)) rfl
              have e51 : a.tmps[51]? = some (.agg #[.int .i64 8, .int .u64 0, .int .u64 (m : Int)]) := by rw [ha]; exact putSel_on (e := (6, 51, .agg #[.int .i64 8, .int .u64 0, .int .u64 (m : Int)])) 6 rfl rfl (hon 6 (by kernel_rfl)) rfl
              replace ha := Aside0.mk ha
              have FB := Aside0.mk Q_FB
              refine goes_ Try.func10 (by kernel_rfl) rfl #[.agg #[.string ⟨#[99]⟩, .int .u8 4, .int .i64 64, .int .i64 0, .int .i64 0, .slice A N c, .slice B' 0 d], .agg #[.int .i64 8, .int .u64 0, .int .u64 (m : Int)]] (by rfl) rfl rfl (by first | (simp only [List.map_toArray, List.map_cons, List.map_nil, Act.eval, Array.getD_eq_getD_getElem?, Option.getD_some, e45, e51]; done) | (simp only [List.map_toArray, List.map_cons, List.map_nil, Act.eval, Array.getD_eq_getD_getElem?, Option.getD_some, e45, e51]; rfl)) ?_
              refine Calls.mono (HCI.out w' FB.out) ?_
              rintro e wX ⟨rfl, hb⟩
              have hfb := FB.out.trans (hb.mono FB.out.size)
              refine ⟨_, rfl, ?_⟩
              have z_FZ := fun (h0_ : up b 7 11 = true) (h1_ : up b 7 12 = false) => (show wX.heap[p]? = some (.cells #[.string ⟨#[]⟩, .int .u8 0, .int .i64 0, .int .i64 0, .int .i64 0, .slice none 0 0, .slice none 0 0] 38 (0, 0)) from (hb.block _ (Array.getElem?_eq_some_iff.1 (Q_FZ h0_ h1_)).1).trans (Q_FZ h0_ h1_))
              refine hK.out _ _ ⟨p, m11_, (by rw [ha.out]; exact putSel_upk 7 hb_ rfl rfl rfl), hfb, z_FZ, fun h0_ => absurd ((hoff 12 (by kernel_rfl)).symm.trans h0_) (by decide), Q_FP, Q_X11_⟩
            refine steps_cons ?_ ?_
            · rintro b a w' ⟨p, m11_, ha, Q_FB, Q_FZ, Q_FS, Q_FP, Q_X11_⟩ hb_ hon hoff
              refine ⟨_, rfl, fun K hK => ?_⟩
              have e52 : a.tmps[52]? = some (.tuple #[.agg #[.string ⟨#[]⟩, .int .u8 0, .int .i64 0, .int .i64 0, .int .i64 0, .slice none 0 0, .slice none 0 0], .int .i64 11]) := by rw [ha]; exact putSel_on (e := (7, 52, .tuple #[.agg #[.string ⟨#[]⟩, .int .u8 0, .int .i64 0, .int .i64 0, .int .i64 0, .slice none 0 0, .slice none 0 0], .int .i64 11])) 7 rfl rfl (hon 7 (by kernel_rfl)) rfl
              replace ha := Aside0.mk ha
              have FB := Aside0.mk Q_FB
              refine value_ (w1 := w') (v := .tuple #[.agg #[.string ⟨#[]⟩, .int .u8 0, .int .i64 0, .int .i64 0, .int .i64 0, .slice none 0 0, .slice none 0 0], .int .i64 11]) (by rfl) rfl ?_ ?_
              · go_simp
                (try simp only [i64_w])
                try rfl
              refine hK.out _ _ ⟨p, m11_, (by rw [ha.out]; exact putSel_upk 8 hb_ rfl rfl rfl), Q_FB, Q_FZ, fun h0_ => absurd ((hoff 12 (by kernel_rfl)).symm.trans h0_) (by decide), Q_FP, Q_X11_⟩
            refine steps_cons ?_ ?_
            · rintro b a w' ⟨p, m11_, ha, Q_FB, Q_FZ, Q_FS, Q_FP, Q_X11_⟩ hb_ hon hoff
              refine ⟨_, rfl, fun K hK => ?_⟩
              have e44 : a.tmps[44]? = some (.tuple #[.agg #[.string ⟨#[]⟩, .int .u8 0, .int .i64 0, .int .i64 0, .int .i64 0, .slice none 0 0, .slice none 0 0], .int .i64 11]) := by rw [ha]; exact putSel_on (e := (8, 44, .tuple #[.agg #[.string ⟨#[]⟩, .int .u8 0, .int .i64 0, .int .i64 0, .int .i64 0, .slice none 0 0, .slice none 0 0], .int .i64 11])) 8 rfl rfl (hon 8 (by kernel_rfl)) rfl
              replace ha := Aside0.mk ha
              have FB := Aside0.mk Q_FB
              refine value_ (w1 := w') (v := .agg #[.string ⟨#[]⟩, .int .u8 0, .int .i64 0, .int .i64 0, .int .i64 0, .slice none 0 0, .slice none 0 0]) (by rfl) rfl ?_ ?_
              · go_simp
                (try simp only [i64_w])
                try rfl
              refine hK.out _ _ ⟨p, m11_, (by rw [ha.out]; exact putSel_upk 9 hb_ rfl rfl rfl), Q_FB, Q_FZ, fun h0_ => absurd ((hoff 12 (by kernel_rfl)).symm.trans h0_) (by decide), Q_FP, Q_X11_⟩
            refine steps_cons ?_ ?_
            · rintro b a w' ⟨p, m11_, ha, Q_FB, Q_FZ, Q_FS, Q_FP, Q_X11_⟩ hb_ hon hoff
              refine ⟨_, rfl, fun K hK => ?_⟩
              have e44 : a.tmps[44]? = some (.tuple #[.agg #[.string ⟨#[]⟩, .int .u8 0, .int .i64 0, .int .i64 0, .int .i64 0, .slice none 0 0, .slice none 0 0], .int .i64 11]) := by rw [ha]; exact putSel_on (e := (8, 44, .tuple #[.agg #[.string ⟨#[]⟩, .int .u8 0, .int .i64 0, .int .i64 0, .int .i64 0, .slice none 0 0, .slice none 0 0], .int .i64 11])) 8 rfl rfl (hon 8 (by kernel_rfl)) rfl
              replace ha := Aside0.mk ha
              have FB := Aside0.mk Q_FB
              refine value_ (w1 := w') (v := .int .i64 11) (by rfl) rfl ?_ ?_
              · go_simp
                (try simp only [i64_w])
                try rfl
              refine hK.out _ _ ⟨p, m11_, (by rw [ha.out]; exact putSel_upk 10 hb_ rfl rfl rfl), Q_FB, Q_FZ, Q_FS, Q_FP, Q_X11_⟩
            refine steps_cons ?_ ?_
            · rintro b a w' ⟨p, m11_, ha, Q_FB, Q_FZ, Q_FS, Q_FP, Q_X11_⟩ hb_ hon hoff
              refine ⟨_, rfl, fun K hK => ?_⟩
              replace ha := Aside0.mk ha
              have FB := Aside0.mk Q_FB
              have hal := (Below.refl w'.heap.size w').alloc (Nat.le_refl _) (.cells #[.string ⟨#[]⟩, .int .u8 0, .int .i64 0, .int .i64 0, .int .i64 0, .slice none 0 0, .slice none 0 0] 38)
              have hfb := FB.out.trans (hal.mono FB.out.size)
              refine value_ (w1 := w'.alloc (.cells #[.string ⟨#[]⟩, .int .u8 0, .int .i64 0, .int .i64 0, .int .i64 0, .slice none 0 0, .slice none 0 0] 38)) (v := .pointer (some ⟨w'.heap.size, 0, none⟩)) (by rfl) rfl ?_ ?_
              · go_simp
                try rfl
              refine hK.out _ _ ⟨w'.heap.size, (.pointer (some ⟨w'.heap.size, 0, none⟩)), (by rw [ha.out]; exact putSel_upk 11 hb_ rfl rfl rfl), hfb, fun _ _ => heap_alloc_new _ _, fun h0_ => absurd ((hoff 12 (by kernel_rfl)).symm.trans h0_) (by decide), fun _ => FB.out.size, fun _ => rfl⟩
            refine steps_cons ?_ ?_
            · rintro b a w' ⟨p, m11_, ha, Q_FB, Q_FZ, Q_FS, Q_FP, Q_X11_⟩ hb_ hon hoff
              refine ⟨_, rfl, fun K hK => ?_⟩
              have e10 : a.tmps[10]? = some (m11_) := by rw [ha]; exact putSel_on (e := (11, 10, m11_)) 11 rfl rfl (hon 11 (by kernel_rfl)) rfl
              rw [Q_X11_ (hon 11 (by kernel_rfl))] at e10
              have e53 : a.tmps[53]? = some (.agg #[.string ⟨#[]⟩, .int .u8 0, .int .i64 0, .int .i64 0, .int .i64 0, .slice none 0 0, .slice none 0 0]) := by rw [ha]; exact putSel_on (e := (9, 53, .agg #[.string ⟨#[]⟩, .int .u8 0, .int .i64 0, .int .i64 0, .int .i64 0, .slice none 0 0, .slice none 0 0])) 9 rfl rfl (hon 9 (by kernel_rfl)) rfl
              replace ha := Aside0.mk ha
              have FB := Aside0.mk Q_FB
              have FZ := Aside0.mk (Q_FZ (hon 11 (by kernel_rfl)) hb_)
              have FP := Aside0.mk (Q_FP (hon 11 (by kernel_rfl)))
              obtain ⟨⟨z0, z1, z2⟩, z3, z4, z5, z6⟩ := cells7' (aside FZ.out)
              have fz := frozenOf FZ.out
              have hF := ((((((((Foot.refl (fun i => i = p) w').setCell (p := ⟨p, 0, none⟩) (.inl rfl) (.string ⟨#[]⟩)).setCell (p := ⟨p, 1, none⟩) (.inl rfl) (.int .u8 0)).setCell (p := ⟨p, 2, none⟩) (.inl rfl) (.int .i64 0)).setCell (p := ⟨p, 3, none⟩) (.inl rfl) (.int .i64 0)).setCell (p := ⟨p, 4, none⟩) (.inl rfl) (.int .i64 0)).setCell (p := ⟨p, 5, none⟩) (.inl rfl) (.slice none 0 0)).setCell (p := ⟨p, 6, none⟩) (.inl rfl) (.slice none 0 0))
              have hfs := set7 FZ.out (.string ⟨#[]⟩) (.int .u8 0) (.int .i64 0) (.int .i64 0) (.int .i64 0) (.slice none 0 0) (.slice none 0 0)
              refine skip_ (w1 := (((((((w'.setCell ⟨p, 0, none⟩ (.string ⟨#[]⟩)).setCell ⟨p, 1, none⟩ (.int .u8 0)).setCell ⟨p, 2, none⟩ (.int .i64 0)).setCell ⟨p, 3, none⟩ (.int .i64 0)).setCell ⟨p, 4, none⟩ (.int .i64 0)).setCell ⟨p, 5, none⟩ (.slice none 0 0)).setCell ⟨p, 6, none⟩ (.slice none 0 0))) (by rfl) rfl ?_ ?_
              · go_simp
                try rfl
              refine hK.out _ _ ⟨p, m11_, (by rw [ha.out]; exact putSel_none (v := undef) rfl), (((((((FB.out.setCell (p := ⟨p, 0, none⟩) FP.out (.string ⟨#[]⟩)).setCell (p := ⟨p, 1, none⟩) FP.out (.int .u8 0)).setCell (p := ⟨p, 2, none⟩) FP.out (.int .i64 0)).setCell (p := ⟨p, 3, none⟩) FP.out (.int .i64 0)).setCell (p := ⟨p, 4, none⟩) FP.out (.int .i64 0)).setCell (p := ⟨p, 5, none⟩) FP.out (.slice none 0 0)).setCell (p := ⟨p, 6, none⟩) FP.out (.slice none 0 0)), fun _ h1_ => absurd ((up_self b 12).symm.trans h1_) (by decide), fun _ => hfs, Q_FP, Q_X11_⟩
            refine steps_cons ?_ ?_
            · rintro b a w' ⟨p, m11_, ha, Q_FB, Q_FZ, Q_FS, Q_FP, Q_X11_⟩ hb_ hon hoff
              refine ⟨_, rfl, fun K hK => ?_⟩
              have e54 : a.tmps[54]? = some (.int .i64 11) := by rw [ha]; exact putSel_on (e := (10, 54, .int .i64 11)) 10 rfl rfl (hon 10 (by kernel_rfl)) rfl
              replace ha := Aside0.mk ha
              have FB := Aside0.mk Q_FB
              have FS := Aside0.mk (Q_FS (hon 12 (by kernel_rfl)))
              have FP := Aside0.mk (Q_FP (hon 11 (by kernel_rfl)))
              refine value_ (w1 := w') (v := .int .i64 11) (by rfl) rfl ?_ ?_
              · go_simp
                (try simp only [i64_w])
                try rfl
              refine hK.out _ _ ⟨p, m11_, (by rw [ha.out]; exact putSel_upk 12 hb_ rfl rfl rfl), Q_FB, fun _ h1_ => absurd ((hon 12 (by kernel_rfl)).symm.trans h1_) (by decide), Q_FS, Q_FP, Q_X11_⟩
            exact steps_nil
          · rintro b a w' hall ⟨p, m11_, ha, Q_FB, Q_FZ, Q_FS, Q_FP, Q_X11_⟩
            clear FB
            have hb0_ := hall 0 (by kernel_rfl)
            have hb1_ := hall 1 (by kernel_rfl)
            have hb2_ := hall 2 (by kernel_rfl)
            have hb3_ := hall 3 (by kernel_rfl)
            have hb4_ := hall 4 (by kernel_rfl)
            have hb5_ := hall 5 (by kernel_rfl)
            have hb6_ := hall 6 (by kernel_rfl)
            have hb7_ := hall 7 (by kernel_rfl)
            have hb8_ := hall 8 (by kernel_rfl)
            have hb9_ := hall 9 (by kernel_rfl)
            have hb10_ := hall 10 (by kernel_rfl)
            have hb11_ := hall 11 (by kernel_rfl)
            have hb12_ := hall 12 (by kernel_rfl)
            have hb13_ := hall 13 (by kernel_rfl)
            subst ha
            obtain rfl := Q_X11_ hb11_
            simp only [putSel, hb0_, hb1_, hb2_, hb3_, hb4_, hb5_, hb6_, hb7_, hb8_, hb9_, hb10_, hb11_, hb12_, hb13_, if_true, Act.put, List.setIfInBounds_toArray, List.set_cons_zero, List.set_cons_succ]
            have FB := Aside0.mk Q_FB
            clear Q_FB
            clear Q_FZ
            have FS := Aside0.mk (Q_FS hb12_)
            clear Q_FS
            have FP := Aside0.mk (Q_FP hb11_)
            clear Q_FP
            clear hall hb0_ hb1_ hb2_ hb3_ hb4_ hb5_ hb6_ hb7_ hb8_ hb9_ hb10_ hb11_ hb12_ hb13_
            have hcx2 : w'.cell? ⟨xb, xo + k, none⟩ = some (.int .u8 (m : Int)) := (FB.out.cell (World.block_lt_of_cell? _ _ hcx)).trans hcx
            have HMB := aside FB.out
            clear HCI hHeld HT_ HW_
            go_wp2_with fail
            go_roundw
            case rel =>
              exact ⟨k + 1, W, A, c, B', d, by omega, by go_num, ⟨HW.out.1, fun j hj => by have := HW.out.2 j hj; omega⟩, ⟨carryB (aside HM.out.box) HMB.out, carryB (aside HM.out.want) HMB.out, HM.out.hR.below HMB.out, HM.out.hd, HM.out.hA⟩, HB.out.trans (HMB.out.mono HB.out.size)⟩
            case measure => (simp [intOf]; omega)
      · obtain rfl : k = n := by omega
        go_wp2_with fail
        go_loopw [12] (fun v12 w2 => ∃ j : Nat, j ≤ N ∧ v12 = .int .i64 j ∧ Aside (Below wr.heap.size wr w2)) (fun i _ => N - (intOf i).toNat)
        case atStart => exact ⟨0, Nat.zero_le _, rfl, Below.refl _ _⟩
        case round =>
          obtain ⟨j, hj, rfl, HB2⟩ := hrel
          by_cases hjN : j < N
          · have HBX := carryB (aside HM.out.box) HB2.out
            have HWT := carryB (aside HM.out.want) HB2.out
            obtain ⟨⟨y0, y1, y2⟩, y3, y4, y5, y6⟩ := cells7' HBX
            obtain ⟨ab, ao, hA, hablt, hcs⟩ := (HM.out.hR.below HB2.out).2.2 (by omega)
            subst hA
            have hc2 := (hcs j hjN).2.2
            rw [cntN_getD _ j (by simp [HW.out.1]; omega), getD_take W N j hjN, ← Nat.add_assoc] at hc2
            simp only at hc2
            have hwm := (cellOf HWT.out j).trans (by rw [List.getElem?_toArray, nums_get _ W j (by rw [HW.out.1]; omega)])
            generalize W.getD j 0 = Lj at *
            have h1 : (0 : Int) ≤ (j : Int) := by omega
            have h2 : (j : Int) < (N : Int) := by omega
            have h3 : (j : Int) < 256 := by omega
            clear hcs
            go_wp2_with fail
            go_quiet (fail)
            go_wp2_with fail
            go_roundw
            case rel => exact ⟨j + 1, by omega, by go_num, HB2.out.trans ((below_drewN (Below.refl _ _) _).mono HB2.out.size)⟩
            case measure => (simp [intOf]; omega)
          · obtain rfl : j = N := by omega
            go_wp2_with fail
            refine Calls.mono (lives_any _) ?_
            rintro e w3 ⟨rfl, hb3⟩
            go_wp2
            go_ret
            have h := HB.out.trans (HB2.out.mono HB.out.size)
            exact ⟨rfl, h.trans (hb3.mono h.size)⟩
end Go.Proofs.Ytanimonhnngfkaa.Own
