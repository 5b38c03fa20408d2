/-
  The contract of pointsmanlaw05.alive: it answers true.
-/
import Derived.Test.YtkngnoimjpeolaaJDisk
import Derived.Lib.SlBytesConst
set_option linter.unusedVariables false
set_option linter.unusedSimpArgs false
namespace Go.Proofs.Ytkngnoimjpeolaa
open Go.RowKit SumsMath

theorem own_lit (w : World) (xs : List Int) (n : Nat) (hn : xs.length = n) (hm : n ≤ 9223372036854775807) (cs : Array Value) (hc : cs = (nums .u8 xs).toArray) : (w.alloc (.cells cs 5)).ownsRow w.heap.size 5 1 (.slice (some ⟨w.heap.size, 0, none⟩) n n) n (nums .u8 xs) := by
  subst hc
  exact ⟨by simp [nums, hn], .inr ⟨w.heap.size, n, _, rfl, Nat.le_refl _, heap_alloc_new w _, Nat.le_refl _, by simpa [maxLen] using hm, by simp [nums, hn], by rw [List.toList_toArray, List.take_of_length_le (by simp [nums, hn])]⟩⟩
def fa : List Int := [1, 0, 0, 0, 67, 190, 183, 232, 97]
theorem frm_a : frm [97] = fa := by decide +kernel
theorem recs_a : JMath.recsF (sumF 2) fa = [[97]] := by decide +kernel
theorem recs_a2 : JMath.recsF (sumF 2) (fa ++ [255, 255]) = [[97]] := by decide +kernel
theorem recs_a8 : JMath.recsF (sumF 2) [1, 0, 0, 0, 67, 190, 183, 232] = [] := by decide +kernel
theorem recs_ab : JMath.recsF (sumF 2) (fa ++ (frm [98]).take 3) = [[97]] := by decide +kernel
theorem bytes_of (l : List Int) (h : l.all (fun x => decide (0 ≤ x) && decide (x ≤ 255)) = true) : Bytes l := by
  intro j
  rcases Nat.lt_or_ge j l.length with hj | hj
  · have := List.all_eq_true.1 h _ (List.getElem_mem hj)
    simp only [Bool.and_eq_true, decide_eq_true_eq] at this
    rw [List.getD_eq_getElem?_getD, List.getElem?_eq_getElem hj]
    exact this
  · rw [List.getD_eq_getElem?_getD, List.getElem?_eq_none hj]; exact ⟨by decide, by decide⟩

section
variable {B : Nat} {w0 w : World} {g : Nat} {room : Int} {bs xs : List Int} {off : Bool} {fl : Option Int} {A : Option Addr} {m c : Nat}
theorem DS.add (h : DS B w0 w g room bs false none) (hx : Bytes xs) (HR : Reads w .u8 A m xs) (h1 : 1 ≤ m) (h2 : m ≤ 65537) (hr1 : 1 ≤ room) (hr2 : room ≤ 16777216) (hroom : 8 + (m : Int) ≤ room - (bs.length : Int)) :
    Calls Try.prog 13 #[.pointer (some ⟨g, 0, none⟩), .slice A m c] w fun e w' => e = .returned (.int .i64 0) ∧ DS B w0 w' g room (bs ++ frm xs) false none := by
  obtain ⟨F, hF, hD, hB, hs⟩ := h
  exact (Add_ok hD hx HR h1 h2 hr1 hr2 hroom).mono fun e w' ⟨he, ht⟩ => ⟨he, DS.to hF hB hs ht⟩
theorem DS.addFail {n : Int} (h : DS B w0 w g room bs false (some n)) (hx : Bytes xs) (HR : Reads w .u8 A m xs) (h1 : 1 ≤ m) (h2 : m ≤ 65537) (hr1 : 1 ≤ room) (hr2 : room ≤ 16777216) (hroom : 8 + (m : Int) ≤ room - (bs.length : Int)) :
    Calls Try.prog 13 #[.pointer (some ⟨g, 0, none⟩), .slice A m c] w fun e w' => e = .returned (.int .i64 13) ∧ DS B w0 w' g room (bs ++ (frm xs).take n.toNat) true none := by
  obtain ⟨F, hF, hD, hB, hs⟩ := h
  exact (Add_fail hD hx HR h1 h2 hr1 hr2 hroom).mono fun e w' ⟨he, ht⟩ => ⟨he, DS.to hF hB hs ht⟩
def DSOpened (B : Nat) (w0 : World) (g : Nat) (room : Int) (bs : List Int) (fl : Option Int) (e : Ending) (w' : World) : Prop :=
  ∃ out b, e = .returned (.tuple #[out, .int .i64 0]) ∧ RowsAt w' b out (JMath.recsF (sumF 2) bs) ∧ DS B w0 w' g room (bs.take (JMath.total (JMath.recsF (sumF 2) bs))) false fl
theorem DS.open_ (h : DS B w0 w g room bs false fl) (hx : Bytes bs) (hr1 : 1 ≤ room) (hm : bs.length ≤ 16777216) :
    Calls Try.prog 16 #[.pointer (some ⟨g, 0, none⟩)] w (DSOpened B w0 g room bs fl) := by
  obtain ⟨F, hF, hD, hB, hs⟩ := h
  exact (Open_ok hD hx hr1 hm).mono fun e w' ⟨out, he, hr, ht⟩ => ⟨out, _, he, hr, DS.to hF hB hs ht⟩
theorem DS.openOff (h : DS B w0 w g room bs true fl) (hx : Bytes bs) (hr1 : 1 ≤ room) (hm : bs.length ≤ 16777216) :
    Calls Try.prog 16 #[.pointer (some ⟨g, 0, none⟩)] w fun e w' => e = .returned (.tuple #[.slice none 0 0, .int .i64 13]) ∧ DS B w0 w' g room bs true fl := by
  obtain ⟨F, hF, hD, hB, hs⟩ := h
  exact (Open_off hD hx hr1 hm).mono fun e w' ⟨he, hb⟩ => ⟨he, DS.grown ⟨F, hF, hD, hB, hs⟩ hb⟩
end
theorem mark_below (w : World) (cs : Array Value) : Below w.heap.size w (w.alloc (.cells cs 5 (cs.size, cs.size + 1))) := (Below.refl _ _).alloc (Nat.le_refl _) _
theorem by_fb : Bytes (fa ++ (frm [98]).take (Int.toNat 3)) := by
  have e : (frm [98]).take (Int.toNat 3) = [1, 0, 0] := by decide +kernel
  rw [e]
  exact bytes_of _ rfl
theorem by_97 : Bytes [97] := bytes_of _ rfl
theorem by_98 : Bytes [98] := bytes_of _ rfl
theorem by_fa : Bytes fa := bytes_of _ rfl
theorem by_fa2 : Bytes (fa ++ [255, 255]) := bytes_of _ rfl
theorem by_8 : Bytes [1, 0, 0, 0, 67, 190, 183, 232] := bytes_of _ rfl
theorem frm_b3 : (frm [98]).take 3 = [1, 0, 0] := by decide +kernel

/-- How the memory stands while alive goes on. -/
def AL (w W : World) (q : Nat) : Prop := Below w.heap.size w W ∧ W.heap[q]? = some (.cells (nums .u8 fa).toArray 5 (0, 0))
theorem AL.later {w W W' : World} {q : Nat} (h : AL w W q) (hb : Below W.heap.size W W') : AL w W' q :=
  ⟨h.1.trans (hb.mono h.1.size), (hb.block q (Array.getElem?_eq_some_iff.1 h.2).1).trans h.2⟩
theorem AL.reads {w W : World} {q : Nat} (h : AL w W q) : Reads W .u8 (some ⟨q, 0, none⟩) 9 fa := reads_block h.2 rfl rfl (by decide)
def RdLit (k t : Nat) (w : World) (e : Ending) (w' : World) : Prop := ∃ A c, e = .returned (.tuple #[.slice A k c, .int .i64 (t : Int)]) ∧ Below w.heap.size w w'
theorem Read_lit (A : Option Addr) (n c : Nat) (bs : List Int) (rows : List (List Int)) (k t : Nat) (w : World) (hx : Bytes bs) (hR : Reads w .u8 A n bs) (hn : n ≤ 1000000000) (hnc : n ≤ c) (h1 : JMath.recsF (sumF 2) bs = rows) (h2 : rows.length = k) (h3 : JMath.total rows = t) :
    Calls Try.prog 10 #[.slice A n c] w (RdLit k t w) :=
  (Read_ok A n c bs w hx hR hn hnc).mono fun e w' ⟨out, he, hr, hb⟩ => by
    rw [h1] at hr he
    rw [h3] at he
    obtain ⟨vs, hv1, hv2, hv3⟩ := hr
    rw [h2] at hv2
    obtain ⟨A2, L2, c2, rfl, hL⟩ := own_form hv2
    rw [hL.out] at he
    exact ⟨A2, c2, he, hb⟩
theorem reads_mark (w : World) (xs : List Int) (cs : Array Value) (fr : Nat × Nat) (hc : cs = (nums .u8 xs).toArray) (hl : xs.length ≤ 9223372036854775807) : Reads (w.alloc (.cells cs 5 fr)) .u8 (some ⟨w.heap.size, 0, none⟩) xs.length xs :=
  reads_block (heap_alloc_new w (.cells cs 5 fr)) hc rfl hl
set_option maxRecDepth 100000 in
set_option maxHeartbeats 6400000 in
theorem alive_any (w : World) : Calls Try.prog 7 #[] w fun e w' => e = .returned (.bool true) ∧ Below w.heap.size w w' := by
  have kc := fun (w : World) (C : Array Value) (n c : Nat) => Lib.run_convert_bytes_const (P := Try.prog) w 26 5 C n c Try.underlying26 Try.underlying5
  go_enter Try.func7, Try.ntmps7
  go_wp2_with fail
  refine Calls.mono (Frame_ok _ 1 1 [97] _ by_97 (reads_mark w [97] _ _ rfl (by decide)) (by decide) (by decide)) ?_
  rintro e w1 ⟨q, rfl, hq1, hq2, hb1⟩
  have HA := aside' (show AL w w1 q from ⟨((Below.refl w.heap.size w).alloc (Nat.le_refl _) _).trans (hb1.mono (by simp)), frm_a ▸ hq2⟩)
  clear hb1 hq1 hq2
  go_wp2_with fail
  refine Calls.mono (Frame_no none 0 0 (by decide) (by decide) w1) ?_
  rintro e w2 ⟨rfl, hw2⟩
  have hw2 := hw2.symm
  subst hw2
  have HL1 := own_lit w1 fa 9 rfl (by decide) _ rfl
  have HL2 := aside' (reads_lit (w1.alloc (.cells (nums .u8 fa).toArray 5)) .u8 5 [255, 255] _ rfl (by decide))
  have HL1' := aside' (HL1.alloc (.cells (nums .u8 [255, 255]).toArray 5))
  have HBL := aside' (((Below.refl w1.heap.size w1).alloc (Nat.le_refl _) (.cells (nums .u8 fa).toArray 5)).alloc (by simp) (.cells (nums .u8 [255, 255]).toArray 5))
  have e9 : (nums .u8 fa).toArray = #[.int .u8 1, .int .u8 0, .int .u8 0, .int .u8 0, .int .u8 67, .int .u8 190, .int .u8 183, .int .u8 232, .int .u8 97] := rfl
  have e2 : (nums .u8 [255, 255]).toArray = #[.int .u8 255, .int .u8 255] := rfl
  rw [e9] at HL2 HL1' HBL
  rw [e2] at HL2 HL1' HBL
  simp only [World.size_alloc] at HL2
  clear e9 e2 HL1
  go_wp2_with (at_builtin; refine append_row w1.heap.size rfl _ _ 26 5 .u8 1 rfl Try.underlying26 infoU8 (by omega) (.slice (some ⟨w1.heap.size, 0, none⟩) 9 9) fa [255, 255] _ 2 2 rfl rfl HL1'.out HL2.out (by simp; omega) (by decide) ?_; intro v3 w3 hown3 hg3 hat3; obtain ⟨g3, c3, rfl, hgb3, hgs3, hc3, _⟩ := own_some hown3 (by decide); have HW3 := aside' (And.intro (own_rd hown3) (HBL.out.trans (own_grown HL1'.out hg3 (by simp; omega)))); clear hown3 hg3 hat3)
  refine Calls.mono (Read_lit _ _ c3 (fa ++ [255, 255]) [[97]] 1 9 w3 by_fa2 HW3.out.1 (by decide) hc3 recs_a2 rfl rfl) ?_
  rintro e w4 ⟨A4, c4, rfl, hb4⟩
  have HA4 := aside' ((HA.out.later HW3.out.2).later hb4)
  clear hb4 HW3 HL1' HL2 HBL HA
  go_wp2_with fail
  refine Calls.mono (Read_lit _ 8 8 [1, 0, 0, 0, 67, 190, 183, 232] [] 0 0 _ by_8 (reads_lit w4 .u8 5 [1, 0, 0, 0, 67, 190, 183, 232] _ rfl (by decide)) (by decide) (by decide) recs_a8 rfl rfl) ?_
  rintro e w5 ⟨A5, c5, rfl, hb5⟩
  have HA5 := aside' ((HA4.out.later ((Below.refl _ _).alloc (Nat.le_refl _) _)).later hb5)
  clear hb5 HA4
  go_wp2_with fail
  refine Calls.mono (DS.new w5 (room := 20) (by decide) (by decide)) ?_
  rintro e w6 ⟨rfl, d6⟩
  have D6 := aside' d6
  clear d6
  go_wp2_with fail
  refine Calls.mono (DS.add (D6.out.grown (mark_below w6 #[.int .u8 97])) by_97 (reads_mark w6 [97] _ _ rfl (by decide)) (by decide) (by decide) (by decide) (by decide) (by decide)) ?_
  rintro e w7 ⟨rfl, d7⟩
  rw [frm_a, List.nil_append] at d7
  have D7 := aside' d7
  clear d7 D6
  go_wp2_with fail
  refine Calls.mono (DS.fail (n := 3) D7.out (by decide) (by decide)) ?_
  rintro e w8 ⟨rfl, d8⟩
  have D8 := aside' d8
  clear d8 D7
  go_wp2_with fail
  refine Calls.mono (DS.addFail (D8.out.grown (mark_below w8 #[.int .u8 98])) by_98 (reads_mark w8 [98] _ _ rfl (by decide)) (by decide) (by decide) (by decide) (by decide) (by decide)) ?_
  rintro e w9 ⟨rfl, d9⟩
  have D9 := aside' d9
  clear d9 D8
  go_wp2_with fail
  refine Calls.mono (DS.openOff D9.out by_fb (by decide) (by decide)) ?_
  rintro e w10 ⟨rfl, d10⟩
  have D10 := aside' d10
  clear d10 D9
  go_wp2_with fail
  refine Calls.mono (DS.up D10.out (by decide)) ?_
  rintro e w11 ⟨rfl, d11⟩
  have D11 := aside' d11
  clear d11 D10
  go_wp2_with fail
  refine Calls.mono (DS.open_ D11.out by_fb (by decide) (by decide)) ?_
  rintro e w12 ⟨out, b12, rfl, hr12, d12⟩
  have e12 : JMath.recsF (sumF 2) (fa ++ (frm [98]).take (Int.toNat 3)) = [[97]] := recs_ab
  rw [e12] at hr12 d12
  have e13 : (fa ++ (frm [98]).take (Int.toNat 3)).take (JMath.total [[97]]) = fa := rfl
  rw [e13] at d12
  obtain ⟨vs, hv1, hv2, hv3⟩ := hr12
  obtain ⟨A12, L12, c12, rfl, hL⟩ := own_form hv2
  have hL1 := hL.out
  simp only [List.length_cons, List.length_nil, Nat.zero_add] at hL1
  subst hL1
  have D12 := aside' d12
  clear d12 D11 e12 e13 hv1 hv2 hv3 hL
  go_wp2_with fail
  have A12_ := aside' (HA5.out.later D12.out.below)
  have hsz : w12.heap.size = w12.heap.size := rfl
  refine Calls.mono (same_bytes _ _ 9 9 9 9 fa fa _ ((A12_.out.later ((Below.refl _ _).alloc (Nat.le_refl _) _)).reads) (reads_lit w12 .u8 5 fa _ rfl (by decide))) ?_
  rintro e w13 ⟨rfl, q13, rfl⟩
  have D13 := aside' ((D12.out.alloc (.cells (nums .u8 fa).toArray 5)).drewN q13)
  have A13 := aside' ((A12_.out.later ((Below.refl _ _).alloc (Nat.le_refl _) (.cells (nums .u8 fa).toArray 5))).later (below_drewN (Below.refl _ _) q13))
  have e9 : (nums .u8 fa).toArray = #[.int .u8 1, .int .u8 0, .int .u8 0, .int .u8 0, .int .u8 67, .int .u8 190, .int .u8 183, .int .u8 232, .int .u8 97] := rfl
  rw [e9] at D13 A13
  clear e9 hsz A12_ D12
  go_wp2_with fail
  refine Calls.mono (DS.bytes D13.out (by decide)) ?_
  rintro e w14 ⟨v14, rfl, hown14, hb14⟩
  obtain ⟨A14, c14, rfl, hc14, HR14⟩ := own_reads hown14
  have A14_ := aside' (A13.out.later hb14)
  have HR14 := aside' (show Reads w14 .u8 A14 9 fa from HR14)
  clear hown14 hb14 A13 D13
  go_wp2_with fail
  refine Calls.mono (same_bytes _ _ 9 c14 9 9 fa fa _ HR14.out A14_.out.reads) ?_
  rintro e w15 ⟨rfl, q15, rfl⟩
  go_wp2
  go_ret
  exact ⟨rfl, below_drewN A14_.out.1 q15⟩
end Go.Proofs.Ytkngnoimjpeolaa
