/-
  queue.Copies, of what lives hands it.
-/
import Derived.Test.YtdgilloblfbklabGreatDoorCopies1
import Derived.Test.YtdgilloblfbklabGreatDoorRoundRegion
import Derived.Test.YtdgilloblfbklabGreatDoorWInv
import Derived.Test.YtdgilloblfbklabGreatDoorWInvWords
set_option linter.unusedVariables false
set_option linter.unusedSimpArgs false
namespace Go.Proofs.YtdgilloblfbklabGreatDoor.Own
open Go.RowKit Go.Shelf Go.Proofs.YtdgilloblfbklabGreatDoorW.PrintLast
open Go.Proofs.YtdgilloblfbklabGreatDoorW.PrintWords (Aside0)
attribute [local go_sem] Oper.semAt_some

theorem keepC_grown {F : Nat → Prop} {X Y : World} {row : Option Nat} (hg : X.grownBy Y row) (hr : ∀ r, row = some r → ∃ o : Obj, X.heap[r]? = some o ∧ o.isCells = false) : KeepC F X Y :=
  ⟨hg.os, hg.tape, hg.output, hg.size, fun k cs t fr hk _ => by
    refine (hg.block k (Array.getElem?_eq_some_iff.1 hk).1 (fun e => ?_)).trans hk
    obtain ⟨o, ho, hc⟩ := hr k e.symm
    rw [hk] at ho; cases ho; cases hc⟩
theorem loadVar_sl (W : World) (b : Nat) (v : Value) (h : W.cell? ⟨b, 0, none⟩ = some v) : (loadVar 31 ⟨b, 0, none⟩).run Tryz.prog W = .ok v W := by
  go_simp
theorem results_sl_tmp {fn : Func} {p u : Tmp} (h : fn.results = #[.cell p 31, .tmp u]) (tmps : Array Value) (W : World) (b : Nat) (v : Value) (hp : tmps.getD p undef = .pointer (some ⟨b, 0, none⟩)) (hc : W.cell? ⟨b, 0, none⟩ = some v) :
    (results fn tmps).run Tryz.prog W = .ok (.tuple #[v, tmps.getD u undef]) W := by
  rw [results_cell_tmp h, hp]
  simp [asAddr, loadVar_sl W b v hc, Result.andThen]
theorem port_get (O : List (Int × Value)) (j : Nat) (x : Int) (h : (O.map Prod.fst)[j]? = some x) : (O.getD j (0, .slice none 0 0)).1 = x := by
  rw [List.getElem?_map] at h
  rw [List.getD_eq_getElem?_getD]
  cases hh : O[j]? with
  | none => rw [hh] at h; cases h
  | some y => rw [hh] at h; simpa using h
theorem start_round {P : Program} {m l0_ : Nat} {id n : Nat} {S : World → Prop} {ds : List Nat} {a : Act} {w : World} {Q : Exit → Act → World → Prop} {l0 : List Oper} (l : Array Bool) (hm : P.follows .mixedOrders = true) (hd : noDeferB l0 = true) (hQ : ¬ LetsOut Q) (hn : l0.toArray.size = n) (hl : Array.replicate n false = l) (hS : S w.drew)
    (h : S w.drew → wpAnyLast P .any l0.toArray Q S ds n l a w.drew) : (Code.region id l0.toArray true).wpIn (Fence.wide.inRound l0_) m P Q a w := by
  subst hn
  subst hl
  exact wpIn_region_round hm hd hQ (wpAny_of_last _ _ _ _ (h hS))
theorem KeepsOthers.ofBelow {W W' : World} (h : Below W.heap.size W W') : KeepsOthers W W' :=
  ⟨h.size, fun k o hk _ => (h.block k (Array.getElem?_eq_some_iff.1 hk).1).trans hk⟩
theorem KeepsOthers.ofRow {W W' : World} {base n : Nat} {e : TypeId} {size : Nat} {v : Value} {xs : List Value} (ho : W.ownsRow base e size v n xs) (hg : W.grownBy W' v.ownBlock) : KeepsOthers W W' :=
  KeepsOthers.of_grownBy hg (fun j o hj hk => by
    rcases ho.2 with ⟨h1, _⟩ | ⟨g, cap, cur, h1, _, h3, _⟩
    · rw [h1] at hj; cases hj
    · rw [h1] at hj; injection hj with hj; subst hj; rw [h3] at hk; cases hk; rfl)
theorem Cells.heap {w : World} {g : Nat} {cs : Array Value} {e : TypeId} {m size : Nat} (h : w.heap[g]? = some (.cells cs e (0, 0))) (hl : cs.size = m * size) (h1 : ∀ u ∈ cs.toList, u.oneCell' = true) : Cells w (some ⟨g, 0, none⟩) m size cs.toList :=
  ⟨by simpa using hl, h1, fun _ => ⟨_, rfl, fun j u hu => by rw [add_plain, cellOf h j]; simpa using hu⟩⟩
/-- What the range holds. -/
def CpState (B0 Bo : Nat) (pre : List Int) (W : World) : Prop := ∃ (v : Value) (O : List (Int × Value)), W.heap[Bo]? = some (.cells #[v] 31 (0, 0)) ∧ W.ownsRow B0 37 2 v pre.length (outCells O) ∧ O.map Prod.fst = pre
theorem CpState.own (B0 Bo : Nat) : Own (CpState B0 Bo) := by
  rintro bs X Y row ⟨v, O, h1, h2, h3⟩ hg hr
  have key : ∀ (k : Nat) (cs : Array Value) (t : TypeId) (fr : Nat × Nat), X.heap[k]? = some (.cells cs t fr) → Y.heap[k]? = some (.cells cs t fr) := fun k cs t fr hk => by
    refine (hg.block k (Array.getElem?_eq_some_iff.1 hk).1 (fun e => ?_)).trans hk
    obtain ⟨o, ho, hc⟩ := hr k e.symm
    rw [hk] at ho; cases ho; cases hc
  refine ⟨v, O, key _ _ _ _ h1, ⟨h2.1, ?_⟩, h3⟩
  rcases h2.2 with h | ⟨g, cap, cur, hv, hgb, hh, r⟩
  · exact .inl h
  · exact .inr ⟨g, cap, cur, hv, hgb, key _ _ _ _ hh, r⟩
theorem alloc3 (w : World) (a b c : Obj) : (((w.alloc a).alloc b).alloc c).heap[w.heap.size]? = some a ∧ (((w.alloc a).alloc b).alloc c).heap[w.heap.size + 1]? = some b ∧ (((w.alloc a).alloc b).alloc c).heap[w.heap.size + 1 + 1]? = some c ∧ (((w.alloc a).alloc b).alloc c).heap.size = w.heap.size + 3 := by
  have s1 : (w.alloc a).heap.size = w.heap.size + 1 := by simp
  have s2 : ((w.alloc a).alloc b).heap.size = w.heap.size + 2 := by simp
  have s3 : (((w.alloc a).alloc b).alloc c).heap.size = w.heap.size + 3 := by simp
  refine ⟨?_, ?_, ?_, s3⟩
  · rw [Below.heap_alloc _ _ _ (by omega), Below.heap_alloc _ _ _ (by omega)]; exact heap_alloc_new _ _
  · rw [Below.heap_alloc _ _ _ (by omega)]
    have := heap_alloc_new (w.alloc a) b
    rwa [s1] at this
  · have := heap_alloc_new ((w.alloc a).alloc b) c
    rwa [s2] at this
theorem Clone_form (q m d : Nat) (ls : List Int) (B : Option Addr) (w : World) (hS : Reads w .u8 B m ls) (hm : m ≤ 140737488351232) (hd : B = none → d = 0) :
    Calls Tryz.prog 21 #[.slice B m d] w fun e w' => ∃ A c, e = .returned (.slice A m c) ∧ (m ≤ c ∧ c ≤ 9223372036854775807 ∧ ∀ ad, A = some ad → ad.spot = none) ∧ Below w.heap.size w w' := by
  refine (Clone_bytes B m d ls w hS hm hd).mono ?_
  rintro e w' ⟨v, rfl, ho, hb⟩
  obtain ⟨A, L, c, rfl, hL⟩ := own_form ho
  obtain rfl : L = m := hL.out
  exact ⟨A, c, rfl, own_clip ho, hb⟩

def cop6.T6 : Bool × List (List Nat × List Nat) := (true, [([], []), ([], []), ([], []), ([2], [2]), ([3], [3]), ([4, 4], [4]), ([1, 5], [1, 5]), ([6], [6]), ([0, 7, 5], [0, 7]), ([8, 8, 0, 1, 2, 3, 4, 5, 6, 7, 8], [8])])
def cop6.B6 : List Nat := [0, 0, 0, 4, 12, 28, 62, 126, 255, 511]
theorem cop6.tab6 : rtab .any (opsOf Tryz.f17 6) = cop6.T6 := by kernel_rfl
theorem cop6.bits6 : waitsOk cop6.T6.2 cop6.B6 = true := by kernel_rfl
set_option maxRecDepth 100000 in
set_option maxHeartbeats 4000000 in
theorem Copies_lives (ef gr pt pb : Nat) (w : World) (hA : ToAt ef gr pt w) (hP : Reads w .u8 (some ⟨pb, 0, none⟩) 1 [98]) :
    Calls Tryz.prog 17 #[.slice (some ⟨gr, 0, none⟩) 2 2, .agg (passCells (.slice (some ⟨pb, 0, none⟩) 1 1) ef)] w fun e w' => ∃ g, e = .returned (.tuple #[.slice (some ⟨g, 0, none⟩) 3 3, .int .i64 0]) ∧ (w'.cell? ⟨g, 2, none⟩ = some (.int .i64 2) ∧ w'.cell? ⟨g, 4, none⟩ = some (.int .i64 7)) ∧ Below w.heap.size w w' := by
  have he := (Array.getElem?_eq_some_iff.1 hA.he).1
  have hgr := (Array.getElem?_eq_some_iff.1 hA.hr).1
  have hpt := (Array.getElem?_eq_some_iff.1 hA.hx).1
  have hpb := hP.block_lt _ rfl (by decide)
  simp only at hpb
  have HA := aside' hA
  have HP := aside' hP
  clear hA hP
  unfold passCells
  refine (callsIn_wide (n := 3)).1 ?_
  refine callsIn_of_wp_marks Tryz.func17 rfl trivial ?_ rfl
  simp only [Tryz.ntmps17, List.size_toArray, List.length_cons, List.length_nil, Nat.reduceAdd, Nat.reduceSub, Array.replicate_succ, Array.replicate_zero, List.push_toArray, List.append_toArray, List.nil_append, List.cons_append]
  have hA3 := alloc3 w (.cells #[.slice (some ⟨gr, 0, none⟩) 2 2] 89) (.cells #[.int .u8 1, .slice (some ⟨pb, 0, none⟩) 1 1, .int .i64 7, .bool false, .bool false, .slice (some ⟨ef, 0, none⟩) 1 1] 100) (.cells #[.slice none 0 0] 31)
  have HA3 := aside' hA3
  have hc5 := cellOf hA3.2.1 5
  have hc0 := cellOf hA3.1 0
  have hp0 := cellOf hA3.2.1 0
  have hp1 := cellOf hA3.2.1 1
  have hp2 := cellOf hA3.2.1 2
  have hp3 := cellOf hA3.2.1 3
  have hp4 := cellOf hA3.2.1 4
  simp only [List.getElem?_toArray, List.getElem?_cons_zero, List.getElem?_cons_succ] at hc5 hc0 hp0 hp1 hp2 hp3 hp4
  have hB1 : Below w.heap.size w (((w.alloc (.cells #[.slice (some ⟨gr, 0, none⟩) 2 2] 89)).alloc (.cells #[.int .u8 1, .slice (some ⟨pb, 0, none⟩) 1 1, .int .i64 7, .bool false, .bool false, .slice (some ⟨ef, 0, none⟩) 1 1] 100)).alloc (.cells #[.slice none 0 0] 31)) := (((Below.refl _ _).alloc (Nat.le_refl _) _).alloc (by simp) _).alloc (by simp; omega) _
  have HB1 := aside' hB1
  have HCN := aside' (Contains_ok w.heap.size ef gr pt _ (HA.out.keep (KeepC.ofFoot (Foot.ofBelow hB1 (fun _ => False))) not_false not_false not_false) hA3.1)
  clear hA3 hB1
  gi_wp2_with fail
  generalize (((w.alloc (.cells #[.slice (some ⟨gr, 0, none⟩) 2 2] 89)).alloc (.cells #[.int .u8 1, .slice (some ⟨pb, 0, none⟩) 1 1, .int .i64 7, .bool false, .bool false, .slice (some ⟨ef, 0, none⟩) 1 1] 100)).alloc (.cells #[.slice none 0 0] 31)) = V1 at *
  refine ⟨trivial, ?_⟩
  refine CallsIn.mono (callsIn_wide.2 HCN.out) ?_
  rintro e w2 ⟨rfl, hb2⟩
  clear hc5 hc0 hp0 hp1 hp2 hp3 hp4 HCN
  obtain ⟨a1, a2, a3, a4⟩ := HA3.out
  have b1 := (hb2.block _ (by omega)).trans a1
  have b2 := (hb2.block _ (by omega)).trans a2
  have b3 := (hb2.block _ (by omega)).trans a3
  have HB2 := aside' (HB1.out.trans (hb2.mono (by omega)))
  have hs2 := hb2.size
  rw [a4] at hs2
  clear a1 a2 a3 a4 hb2 HA3 HB1
  have hc0 := cellOf b1 0
  have hp0 := cellOf b2 0
  have hp1 := cellOf b2 1
  have hp2 := cellOf b2 2
  have hp3 := cellOf b2 3
  have hp4 := cellOf b2 4
  have hp5 := cellOf b2 5
  simp only [List.getElem?_toArray, List.getElem?_cons_zero, List.getElem?_cons_succ] at hc0 hp0 hp1 hp2 hp3 hp4 hp5
  have HBB := aside' (And.intro b2 b3)
  clear b1 b2 b3
  gi_wp2_with fail
  refine ⟨trivial, ?_⟩
  refine CallsIn.mono (callsIn_wide.2 (to_any _ _ _ _ rfl _)) ?_
  rintro e w3 ⟨rfl, rfl⟩
  have hq1 := heap_alloc_new w2 (.cells #[.slice (some ⟨gr, 0, none⟩) 2 2] 89)
  have hs1 : (w2.alloc (.cells #[.slice (some ⟨gr, 0, none⟩) 2 2] 89)).heap.size = w2.heap.size + 1 := by simp
  have hq2 := heap_alloc_new (w2.alloc (.cells #[.slice (some ⟨gr, 0, none⟩) 2 2] 89)) (.cells #[.int .u8 1, .slice (some ⟨pb, 0, none⟩) 1 1, .int .i64 7, .bool false, .bool false, .slice (some ⟨ef, 0, none⟩) 1 1] 100)
  rw [hs1] at hq2
  have hq3 : ((w2.alloc (.cells #[.slice (some ⟨gr, 0, none⟩) 2 2] 89)).alloc (.cells #[.int .u8 1, .slice (some ⟨pb, 0, none⟩) 1 1, .int .i64 7, .bool false, .bool false, .slice (some ⟨ef, 0, none⟩) 1 1] 100)).heap[w2.heap.size]? = _ := (Below.heap_alloc _ _ _ (by omega)).trans hq1
  have hs3 : ((w2.alloc (.cells #[.slice (some ⟨gr, 0, none⟩) 2 2] 89)).alloc (.cells #[.int .u8 1, .slice (some ⟨pb, 0, none⟩) 1 1, .int .i64 7, .bool false, .bool false, .slice (some ⟨ef, 0, none⟩) 1 1] 100)).heap.size = w2.heap.size + 2 := by simp
  have hb23 : Below w2.heap.size w2 ((w2.alloc (.cells #[.slice (some ⟨gr, 0, none⟩) 2 2] 89)).alloc (.cells #[.int .u8 1, .slice (some ⟨pb, 0, none⟩) 1 1, .int .i64 7, .bool false, .bool false, .slice (some ⟨ef, 0, none⟩) 1 1] 100)) := ((Below.refl _ _).alloc (Nat.le_refl _) _).alloc (by simp) _
  have HBX := aside' (ToBox.mk (Bp := w2.heap.size + 1) (pk := .slice (some ⟨pb, 0, none⟩) 1 1) (ef := ef) hq2 hq3)
  have HB3 := aside' (HB2.out.trans (hb23.mono (by omega)))
  have c2 := (hb23.block _ (by omega)).trans HBB.out.1
  have c3 := (hb23.block _ (by omega)).trans HBB.out.2
  have HCC := aside' (And.intro c2 c3)
  clear hq1 hs1 hq2 hq3 hc0 hp0 hp1 hp2 hp3 hp4 hp5 hb23 c2 c3 HBB HB2
  gi_wp2_with fail
  generalize ((w2.alloc (.cells #[.slice (some ⟨gr, 0, none⟩) 2 2] 89)).alloc (.cells #[.int .u8 1, .slice (some ⟨pb, 0, none⟩) 1 1, .int .i64 7, .bool false, .bool false, .slice (some ⟨ef, 0, none⟩) 1 1] 100)) = V at *
  have hAV := HA.out.keep (KeepC.ofFoot (Foot.ofBelow HB3.out (fun _ => False))) not_false not_false not_false
  refine range_own rfl (by decide) (gf := 178) (lb := #[.pointer (some ⟨w2.heap.size + 1, 0, none⟩), .pointer (some ⟨w2.heap.size, 0, none⟩)]) rfl trivial (enters_of Tryz.func178 (by kernel_rfl) rfl)
    (to_stops (fun b => b = w.heap.size + 1 + 1 ∨ V.heap.size ≤ b) (w2.heap.size + 1) w2.heap.size ef gr pt (.slice (some ⟨pb, 0, none⟩) 1 1) ⟨by omega, by omega, by omega, by omega, by omega⟩ V hAV HBX.out) KeepC.trans (keepC_b _ _) (Below.refl _ _) (fun _ => rfl)
    (fun pre W => CpState V.heap.size (w.heap.size + 1 + 1) pre W ∧ Below w.heap.size w W ∧ KeepC (fun b => b = w.heap.size + 1 + 1 ∨ V.heap.size ≤ b) V W) (fun _ _ _ => False)
    ?hI (fun _ _ _ _ _ hs _ _ => hs) ?h0 ?round ?done ?stop
  case hI => exact OwnFrom.and ((CpState.own _ _).from _) (OwnFrom.and (ownFrom_below (by omega) (by omega)) (fun s X Y row hs hg hr => hs.trans (keepC_grown hg (fun r e => (hr r e).2))))
  case h0 => exact ⟨⟨_, [], HCC.out.2, World.ownsRow_nil _ _ _ _, rfl⟩, HB3.out, KeepC.refl _ _⟩
  case round =>
    intro x
    apply Exists.intro
    refine ⟨?_, ?_⟩
    · intro l W K hK
      gi_wp2
      exact hK
    · rintro l pre W ⟨⟨v, O, hv, hO, hOx⟩, hBW, hKW⟩ hlen
      have HPB := aside' (hKW.block _ _ _ _ HCC.out.1 (by omega))
      have HPF := aside' (show ¬ (w.heap.size + 1 = w.heap.size + 1 + 1 ∨ V.heap.size ≤ w.heap.size + 1) by omega)
      have hPb : ¬ (pb = w.heap.size + 1 + 1 ∨ V.heap.size ≤ pb) := by omega
      have HBo := aside' (show w.heap.size + 1 + 1 < V.heap.size by omega)
      have HS0 := aside' hKW.size
      have HPW := HP.out.below hBW
      have HFB := aside' (show ∀ i, (i = w.heap.size + 1 + 1 ∨ V.heap.size ≤ i) → w.heap.size ≤ i from fun i hi => by omega)
      generalize w.heap.size + 1 + 1 = Bo at *
      generalize w.heap.size + 1 = P0 at *
      generalize V.heap.size = B0 at *
      have HCL := aside' (fun V' (hf : Foot (fun b => b = Bo ∨ B0 ≤ b) W V') => Clone_form 0 1 1 [98] (some ⟨pb, 0, none⟩) V' (HPW.foot hf (fun ad e _ => by cases e; exact hPb)) (by decide) (fun h => by cases h))
      have FF := aside' (Foot.refl (fun b => b = Bo ∨ B0 ≤ b) W).drew
      have FN := aside' (KeepsOthers.drew W)
      have FC := aside' (show W.drew.heap[Bo]? = some (.cells #[v] 31 (0, 0)) from hv)
      have FV := aside' (own_drew' hO)
      have HX := aside' (And.intro hBW (And.intro hKW hOx))
      clear hBW hKW hOx hv hO hPb HPW hs3
      gi_wp2_with fail
      refine start_round (n := 10) (S := fun w' => True) (ds := []) #[false, false, false, false, false, false, false, false, false, false] (by kernel_rfl) (by kernel_rfl) (fun ⟨_, _, h⟩ => h) rfl rfl trivial (fun hHeld => ?_)
      refine with_tabW cop6.tab6 cop6.bits6 (fun HT_ HW_ => ?_)
      refine inv_at [0, 1, 2, 3, 4, 5, 6, 7, 8, 9] (fun a0_ b a w' => ∃ (A : Option Addr) (c : Nat) (g : Nat) (v2 : Value) (m4_ : Value) (m5_ : Value) (m6_ : Value) (m7_ : Value), a = putSel a0_ b [(0, 17, v), (1, 18, .int .i64 x), (2, 19, .pointer (some ⟨P0, 1, none⟩)), (3, 20, .slice (some ⟨pb, 0, none⟩) 1 1), (4, 21, m4_), (5, 22, m5_), (6, 23, m6_), (7, 24, m7_), (8, 25, v2)] ∧ (Foot (fun b => b = Bo ∨ B0 ≤ b) W w') ∧ (KeepsOthers W w') ∧ (b 9 = false → w'.heap[Bo]? = some (.cells #[v] 31 (0, 0))) ∧ (b 8 = false → w'.ownsRow B0 37 2 v pre.length (outCells O)) ∧ (b 4 = true → 1 ≤ c ∧ c ≤ 9223372036854775807 ∧ ∀ ad, A = some ad → ad.spot = none) ∧ (b 7 = true → b 8 = false → w'.heap[g]? = some (.cells #[.int .i64 x, .slice A 1 1] 37 (0, 0))) ∧ (b 8 = true → w'.ownsRow B0 37 2 v2 (pre.length + 1) (outCells (O ++ [(x, .slice A 1 1)]))) ∧ (b 9 = true → w'.heap[Bo]? = some (.cells #[v2] 31 (0, 0))) ∧ (b 4 = true → (m4_ : Value) = .slice A 1 c) ∧ (b 5 = true → (m5_ : Value) = .slice A 1 1) ∧ (b 6 = true → (m6_ : Value) = .agg #[.int .i64 x, .slice A 1 1]) ∧ (b 7 = true → (m7_ : Value) = .slice (some ⟨g, 0, none⟩) 1 1)) HT_.out HW_.out (by kernel_rfl) (by kernel_rfl) ?_ ?_ ?_
      · exact ⟨none, 0, 0, (.slice none 0 0), .bool false, .bool false, .bool false, .bool false, by simp only [putSel, Bool.false_eq_true, if_false], FF.out, FN.out, fun _ => FC.out, fun _ => FV.out, fun h_ => absurd h_ (by decide), fun h_ => absurd h_ (by decide), fun h_ => absurd h_ (by decide), fun h_ => absurd h_ (by decide), fun h_ => absurd h_ (by decide), fun h_ => absurd h_ (by decide), fun h_ => absurd h_ (by decide), fun h_ => absurd h_ (by decide)⟩
      · skip
        clear FC FF FN FV
        refine steps_cons ?_ ?_
        · rintro b a w' ⟨A, c, g, v2, m4_, m5_, m6_, m7_, ha, Q_FF, Q_FN, Q_FC, Q_FV, Q_FA, Q_FL, Q_FO, Q_FD, Q_X4_, Q_X5_, Q_X6_, Q_X7_⟩ hb_ hon hoff
          refine ⟨_, rfl, fun K hK => ?_⟩
          have e4 : a.tmps[4]? = some (.pointer (some ⟨Bo, 0, none⟩)) := by rw [ha]; exact (putSel_off rfl).trans rfl
          replace ha := Aside0.mk ha
          have FF := Aside0.mk Q_FF
          have FN := Aside0.mk Q_FN
          have FC := Aside0.mk (Q_FC (hoff 9 (by kernel_rfl)))
          have FV := Aside0.mk (Q_FV (hoff 8 (by kernel_rfl)))
          have hc_ := cellOf FC.out 0
          simp only [List.getElem?_toArray, List.getElem?_cons_zero] at hc_
          refine value_ (w1 := w') (v := v) (by rfl) rfl ?_ ?_
          · go_simp
            (try simp only [i64_w])
            try rfl
          refine hK.out _ _ ⟨A, c, g, v2, m4_, m5_, m6_, m7_, (by rw [ha.out]; exact putSel_upk 0 hb_ rfl rfl rfl), Q_FF, Q_FN, Q_FC, Q_FV, Q_FA, Q_FL, fun h0_ => absurd ((hoff 8 (by kernel_rfl)).symm.trans h0_) (by decide), fun h0_ => absurd ((hoff 9 (by kernel_rfl)).symm.trans h0_) (by decide), Q_X4_, Q_X5_, Q_X6_, Q_X7_⟩
        refine steps_cons ?_ ?_
        · rintro b a w' ⟨A, c, g, v2, m4_, m5_, m6_, m7_, ha, Q_FF, Q_FN, Q_FC, Q_FV, Q_FA, Q_FL, Q_FO, Q_FD, Q_X4_, Q_X5_, Q_X6_, Q_X7_⟩ hb_ hon hoff
          refine ⟨_, rfl, fun K hK => ?_⟩
          have e7 : a.tmps[7]? = some (.int .i64 x) := by rw [ha]; exact (putSel_off rfl).trans rfl
          replace ha := Aside0.mk ha
          have FF := Aside0.mk Q_FF
          have FN := Aside0.mk Q_FN
          have FC := Aside0.mk (Q_FC (hoff 9 (by kernel_rfl)))
          have FV := Aside0.mk (Q_FV (hoff 8 (by kernel_rfl)))
          refine value_ (w1 := w') (v := .int .i64 x) (by rfl) rfl ?_ ?_
          · go_simp
            (try simp only [i64_w])
            try rfl
          refine hK.out _ _ ⟨A, c, g, v2, m4_, m5_, m6_, m7_, (by rw [ha.out]; exact putSel_upk 1 hb_ rfl rfl rfl), Q_FF, Q_FN, Q_FC, Q_FV, Q_FA, fun h0_ _ => absurd ((hoff 7 (by kernel_rfl)).symm.trans h0_) (by decide), fun h0_ => absurd ((hoff 8 (by kernel_rfl)).symm.trans h0_) (by decide), fun h0_ => absurd ((hoff 9 (by kernel_rfl)).symm.trans h0_) (by decide), Q_X4_, Q_X5_, fun h0_ => absurd ((hoff 6 (by kernel_rfl)).symm.trans h0_) (by decide), fun h0_ => absurd ((hoff 7 (by kernel_rfl)).symm.trans h0_) (by decide)⟩
        refine steps_cons ?_ ?_
        · rintro b a w' ⟨A, c, g, v2, m4_, m5_, m6_, m7_, ha, Q_FF, Q_FN, Q_FC, Q_FV, Q_FA, Q_FL, Q_FO, Q_FD, Q_X4_, Q_X5_, Q_X6_, Q_X7_⟩ hb_ hon hoff
          refine ⟨_, rfl, fun K hK => ?_⟩
          have e3 : a.tmps[3]? = some (.pointer (some ⟨P0, 0, none⟩)) := by rw [ha]; exact (putSel_off rfl).trans rfl
          replace ha := Aside0.mk ha
          have FF := Aside0.mk Q_FF
          have FN := Aside0.mk Q_FN
          have FC := Aside0.mk (Q_FC (hoff 9 (by kernel_rfl)))
          have FV := Aside0.mk (Q_FV (hoff 8 (by kernel_rfl)))
          refine value_ (w1 := w') (v := .pointer (some ⟨P0, 1, none⟩)) (by rfl) rfl ?_ ?_
          · go_simp
            (try simp only [i64_w])
            try rfl
          refine hK.out _ _ ⟨A, c, g, v2, m4_, m5_, m6_, m7_, (by rw [ha.out]; exact putSel_upk 2 hb_ rfl rfl rfl), Q_FF, Q_FN, Q_FC, Q_FV, fun h0_ => absurd ((hoff 4 (by kernel_rfl)).symm.trans h0_) (by decide), fun h0_ _ => absurd ((hoff 7 (by kernel_rfl)).symm.trans h0_) (by decide), fun h0_ => absurd ((hoff 8 (by kernel_rfl)).symm.trans h0_) (by decide), fun h0_ => absurd ((hoff 9 (by kernel_rfl)).symm.trans h0_) (by decide), fun h0_ => absurd ((hoff 4 (by kernel_rfl)).symm.trans h0_) (by decide), fun h0_ => absurd ((hoff 5 (by kernel_rfl)).symm.trans h0_) (by decide), fun h0_ => absurd ((hoff 6 (by kernel_rfl)).symm.trans h0_) (by decide), fun h0_ => absurd ((hoff 7 (by kernel_rfl)).symm.trans h0_) (by decide)⟩
        refine steps_cons ?_ ?_
        · rintro b a w' ⟨A, c, g, v2, m4_, m5_, m6_, m7_, ha, Q_FF, Q_FN, Q_FC, Q_FV, Q_FA, Q_FL, Q_FO, Q_FD, Q_X4_, Q_X5_, Q_X6_, Q_X7_⟩ hb_ hon hoff
          refine ⟨_, rfl, fun K hK => ?_⟩
          have e19 : a.tmps[19]? = some (.pointer (some ⟨P0, 1, none⟩)) := by rw [ha]; exact putSel_on (e := (2, 19, .pointer (some ⟨P0, 1, none⟩))) 2 rfl rfl (hon 2 (by kernel_rfl)) rfl
          replace ha := Aside0.mk ha
          have FF := Aside0.mk Q_FF
          have FN := Aside0.mk Q_FN
          have FC := Aside0.mk (Q_FC (hoff 9 (by kernel_rfl)))
          have FV := Aside0.mk (Q_FV (hoff 8 (by kernel_rfl)))
          have hc_ : w'.cell? ⟨P0, 1, none⟩ = some (.slice (some ⟨pb, 0, none⟩) 1 1) := cellOf (FF.out.blk HPB.out HPF.out) 1
          refine value_ (w1 := w') (v := .slice (some ⟨pb, 0, none⟩) 1 1) (by rfl) rfl ?_ ?_
          · go_simp
            (try simp only [i64_w])
            try rfl
          refine hK.out _ _ ⟨A, c, g, v2, m4_, m5_, m6_, m7_, (by rw [ha.out]; exact putSel_upk 3 hb_ rfl rfl rfl), Q_FF, Q_FN, Q_FC, Q_FV, fun h0_ => absurd ((hoff 4 (by kernel_rfl)).symm.trans h0_) (by decide), fun h0_ _ => absurd ((hoff 7 (by kernel_rfl)).symm.trans h0_) (by decide), fun h0_ => absurd ((hoff 8 (by kernel_rfl)).symm.trans h0_) (by decide), fun h0_ => absurd ((hoff 9 (by kernel_rfl)).symm.trans h0_) (by decide), fun h0_ => absurd ((hoff 4 (by kernel_rfl)).symm.trans h0_) (by decide), fun h0_ => absurd ((hoff 5 (by kernel_rfl)).symm.trans h0_) (by decide), fun h0_ => absurd ((hoff 6 (by kernel_rfl)).symm.trans h0_) (by decide), fun h0_ => absurd ((hoff 7 (by kernel_rfl)).symm.trans h0_) (by decide)⟩
        refine steps_cons ?_ ?_
        · rintro b a w' ⟨A, c, g, v2, m4_, m5_, m6_, m7_, ha, Q_FF, Q_FN, Q_FC, Q_FV, Q_FA, Q_FL, Q_FO, Q_FD, Q_X4_, Q_X5_, Q_X6_, Q_X7_⟩ hb_ hon hoff
          refine ⟨_, rfl, fun K hK => ?_⟩
          have e20 : a.tmps[20]? = some (.slice (some ⟨pb, 0, none⟩) 1 1) := by rw [ha]; exact putSel_on (e := (3, 20, .slice (some ⟨pb, 0, none⟩) 1 1)) 3 rfl rfl (hon 3 (by kernel_rfl)) rfl
          replace ha := Aside0.mk ha
          have FF := Aside0.mk Q_FF
          have FN := Aside0.mk Q_FN
          have FC := Aside0.mk (Q_FC (hoff 9 (by kernel_rfl)))
          have FV := Aside0.mk (Q_FV (hoff 8 (by kernel_rfl)))
          refine goes_ Tryz.func21 (by kernel_rfl) rfl #[.slice (some ⟨pb, 0, none⟩) 1 1] (by rfl) rfl rfl (by first | (simp only [List.map_toArray, List.map_cons, List.map_nil, Act.eval, Array.getD_eq_getD_getElem?, Option.getD_some, e20]; done) | (simp only [List.map_toArray, List.map_cons, List.map_nil, Act.eval, Array.getD_eq_getD_getElem?, Option.getD_some, e20]; rfl)) ?_
          refine Calls.mono (HCL.out w' FF.out) ?_
          rintro e wX ⟨A1, c1, rfl, hform, hb⟩
          refine ⟨_, rfl, ?_⟩
          have hff := FF.out.trans (Foot.ofBelow hb (fun b => b = Bo ∨ B0 ≤ b)) (fun i hi => .inl hi)
          have hfc := (hb.block _ (Array.getElem?_eq_some_iff.1 FC.out).1).trans FC.out
          have hfv := (Foot.ofBelow hb (fun _ => False)).own FV.out (fun _ _ => not_false)
          refine hK.out _ _ ⟨A1, c1, g, v2, (.slice A1 1 c1), m5_, m6_, m7_, (by rw [ha.out]; exact putSel_upk 4 hb_ rfl rfl rfl), hff, FN.out.trans (KeepsOthers.ofBelow hb), fun _ => hfc, fun _ => hfv, fun _ => hform, fun h0_ _ => absurd ((hoff 7 (by kernel_rfl)).symm.trans h0_) (by decide), fun h0_ => absurd ((hoff 8 (by kernel_rfl)).symm.trans h0_) (by decide), fun h0_ => absurd ((hoff 9 (by kernel_rfl)).symm.trans h0_) (by decide), fun _ => rfl, fun h0_ => absurd ((hoff 5 (by kernel_rfl)).symm.trans h0_) (by decide), fun h0_ => absurd ((hoff 6 (by kernel_rfl)).symm.trans h0_) (by decide), fun h0_ => absurd ((hoff 7 (by kernel_rfl)).symm.trans h0_) (by decide)⟩
        refine steps_cons ?_ ?_
        · rintro b a w' ⟨A, c, g, v2, m4_, m5_, m6_, m7_, ha, Q_FF, Q_FN, Q_FC, Q_FV, Q_FA, Q_FL, Q_FO, Q_FD, Q_X4_, Q_X5_, Q_X6_, Q_X7_⟩ hb_ hon hoff
          refine ⟨_, rfl, fun K hK => ?_⟩
          have e21 : a.tmps[21]? = some (m4_) := by rw [ha]; exact putSel_on (e := (4, 21, m4_)) 4 rfl rfl (hon 4 (by kernel_rfl)) rfl
          rw [Q_X4_ (hon 4 (by kernel_rfl))] at e21
          replace ha := Aside0.mk ha
          have FF := Aside0.mk Q_FF
          have FN := Aside0.mk Q_FN
          have FC := Aside0.mk (Q_FC (hoff 9 (by kernel_rfl)))
          have FV := Aside0.mk (Q_FV (hoff 8 (by kernel_rfl)))
          have FA := Aside0.mk (Q_FA (hon 4 (by kernel_rfl)))
          refine goes_ Tryz.func19 (by kernel_rfl) rfl #[.slice A 1 c] (by rfl) rfl rfl (by first | (simp only [List.map_toArray, List.map_cons, List.map_nil, Act.eval, Array.getD_eq_getD_getElem?, Option.getD_some, e21]; done) | (simp only [List.map_toArray, List.map_cons, List.map_nil, Act.eval, Array.getD_eq_getD_getElem?, Option.getD_some, e21]; rfl)) ?_
          refine Calls.mono (Clip_bytes A 1 c w' FA.out.1 FA.out.2.1 FA.out.2.2) ?_
          rintro e wX ⟨rfl, hX_⟩
          subst hX_
          refine ⟨_, rfl, ?_⟩
          refine hK.out _ _ ⟨A, c, g, v2, m4_, (.slice A 1 1), m6_, m7_, (by rw [ha.out]; exact putSel_upk 5 hb_ rfl rfl rfl), FF.out, FN.out, fun _ => FC.out, fun _ => FV.out, fun _ => FA.out, fun h0_ _ => absurd ((hoff 7 (by kernel_rfl)).symm.trans h0_) (by decide), fun h0_ => absurd ((hoff 8 (by kernel_rfl)).symm.trans h0_) (by decide), fun h0_ => absurd ((hoff 9 (by kernel_rfl)).symm.trans h0_) (by decide), Q_X4_, fun _ => rfl, fun h0_ => absurd ((hoff 6 (by kernel_rfl)).symm.trans h0_) (by decide), fun h0_ => absurd ((hoff 7 (by kernel_rfl)).symm.trans h0_) (by decide)⟩
        refine steps_cons ?_ ?_
        · rintro b a w' ⟨A, c, g, v2, m4_, m5_, m6_, m7_, ha, Q_FF, Q_FN, Q_FC, Q_FV, Q_FA, Q_FL, Q_FO, Q_FD, Q_X4_, Q_X5_, Q_X6_, Q_X7_⟩ hb_ hon hoff
          refine ⟨_, rfl, fun K hK => ?_⟩
          have e18 : a.tmps[18]? = some (.int .i64 x) := by rw [ha]; exact putSel_on (e := (1, 18, .int .i64 x)) 1 rfl rfl (hon 1 (by kernel_rfl)) rfl
          have e22 : a.tmps[22]? = some (m5_) := by rw [ha]; exact putSel_on (e := (5, 22, m5_)) 5 rfl rfl (hon 5 (by kernel_rfl)) rfl
          rw [Q_X5_ (hon 5 (by kernel_rfl))] at e22
          replace ha := Aside0.mk ha
          have FF := Aside0.mk Q_FF
          have FN := Aside0.mk Q_FN
          have FC := Aside0.mk (Q_FC (hoff 9 (by kernel_rfl)))
          have FV := Aside0.mk (Q_FV (hoff 8 (by kernel_rfl)))
          have FA := Aside0.mk (Q_FA (hon 4 (by kernel_rfl)))
          refine value_ (w1 := w') (v := .agg #[.int .i64 x, .slice A 1 1]) (by rfl) rfl ?_ ?_
          · go_simp
            (try simp only [i64_w])
            try rfl
          refine hK.out _ _ ⟨A, c, g, v2, m4_, m5_, (.agg #[.int .i64 x, .slice A 1 1]), m7_, (by rw [ha.out]; exact putSel_upk 6 hb_ rfl rfl rfl), Q_FF, Q_FN, Q_FC, Q_FV, Q_FA, fun h0_ _ => absurd ((hoff 7 (by kernel_rfl)).symm.trans h0_) (by decide), fun h0_ => absurd ((hoff 8 (by kernel_rfl)).symm.trans h0_) (by decide), fun h0_ => absurd ((hoff 9 (by kernel_rfl)).symm.trans h0_) (by decide), Q_X4_, Q_X5_, fun _ => rfl, fun h0_ => absurd ((hoff 7 (by kernel_rfl)).symm.trans h0_) (by decide)⟩
        refine steps_cons ?_ ?_
        · rintro b a w' ⟨A, c, g, v2, m4_, m5_, m6_, m7_, ha, Q_FF, Q_FN, Q_FC, Q_FV, Q_FA, Q_FL, Q_FO, Q_FD, Q_X4_, Q_X5_, Q_X6_, Q_X7_⟩ hb_ hon hoff
          refine ⟨_, rfl, fun K hK => ?_⟩
          have e23 : a.tmps[23]? = some (m6_) := by rw [ha]; exact putSel_on (e := (6, 23, m6_)) 6 rfl rfl (hon 6 (by kernel_rfl)) rfl
          rw [Q_X6_ (hon 6 (by kernel_rfl))] at e23
          replace ha := Aside0.mk ha
          have FF := Aside0.mk Q_FF
          have FN := Aside0.mk Q_FN
          have FC := Aside0.mk (Q_FC (hoff 9 (by kernel_rfl)))
          have FV := Aside0.mk (Q_FV (hoff 8 (by kernel_rfl)))
          have FA := Aside0.mk (Q_FA (hon 4 (by kernel_rfl)))
          have hal := (Below.refl w'.heap.size w').alloc (Nat.le_refl _) (.cells #[.int .i64 x, .slice A 1 1] 37)
          refine value_ (w1 := w'.alloc (.cells #[.int .i64 x, .slice A 1 1] 37)) (v := .slice (some ⟨w'.heap.size, 0, none⟩) 1 1) (by rfl) rfl ?_ ?_
          · go_simp
            try rfl
          have hfc := (hal.block _ (Array.getElem?_eq_some_iff.1 FC.out).1).trans FC.out
          refine hK.out _ _ ⟨A, c, w'.heap.size, v2, m4_, m5_, m6_, (.slice (some ⟨w'.heap.size, 0, none⟩) 1 1), (by rw [ha.out]; exact putSel_upk 7 hb_ rfl rfl rfl), FF.out.alloc _, FN.out.trans (KeepsOthers.alloc _ _), fun _ => hfc, fun _ => own_alloc' FV.out _, fun _ => FA.out, fun _ _ => heap_alloc_new _ _, fun h0_ => absurd ((hoff 8 (by kernel_rfl)).symm.trans h0_) (by decide), fun h0_ => absurd ((hoff 9 (by kernel_rfl)).symm.trans h0_) (by decide), Q_X4_, Q_X5_, Q_X6_, fun _ => rfl⟩
        refine steps_cons ?_ ?_
        · rintro b a w' ⟨A, c, g, v2, m4_, m5_, m6_, m7_, ha, Q_FF, Q_FN, Q_FC, Q_FV, Q_FA, Q_FL, Q_FO, Q_FD, Q_X4_, Q_X5_, Q_X6_, Q_X7_⟩ hb_ hon hoff
          refine ⟨_, rfl, fun K hK => ?_⟩
          have e17 : a.tmps[17]? = some (v) := by rw [ha]; exact putSel_on (e := (0, 17, v)) 0 rfl rfl (hon 0 (by kernel_rfl)) rfl
          have e24 : a.tmps[24]? = some (m7_) := by rw [ha]; exact putSel_on (e := (7, 24, m7_)) 7 rfl rfl (hon 7 (by kernel_rfl)) rfl
          rw [Q_X7_ (hon 7 (by kernel_rfl))] at e24
          replace ha := Aside0.mk ha
          have FF := Aside0.mk Q_FF
          have FN := Aside0.mk Q_FN
          have FC := Aside0.mk (Q_FC (hoff 9 (by kernel_rfl)))
          have FV := Aside0.mk (Q_FV hb_)
          have FA := Aside0.mk (Q_FA (hon 4 (by kernel_rfl)))
          have FL := Aside0.mk (Q_FL (hon 7 (by kernel_rfl)) hb_)
          obtain ⟨v1, wX, hr_, hown_, hg_, _⟩ := run_append_cells (P := Tryz.prog) (W := w') B0 31 31 37 (.agg #[.int .i64 0, .slice none 0 0]) 2 32 Tryz.underlying31 infoCopy rfl (by decide) (by decide) v pre.length (outCells O) [.int .i64 x, .slice A 1 1] (some ⟨g, 0, none⟩) 1 1 FV.out (Cells.heap FL.out rfl (by simp [Value.oneCell'])) (Nat.le_trans HS0.out FF.out.size) (by omega)
          rw [show outCells O ++ [.int .i64 x, .slice A 1 1] = outCells (O ++ [(x, .slice A 1 1)]) by rw [outCells_append]; rfl] at hown_
          refine value_ (w1 := wX) (v := v1) (by rfl) rfl (exec_append (t := 31) (s := .tmp 17) (y := .tmp 24) rfl (by first | (simp only [List.map_toArray, List.map_cons, List.map_nil, Act.eval, Array.getD_eq_getD_getElem?, Option.getD_some, e17, e24]; done) | (simp only [List.map_toArray, List.map_cons, List.map_nil, Act.eval, Array.getD_eq_getD_getElem?, Option.getD_some, e17, e24]; rfl)) (by first | (simp only [List.map_toArray, List.map_cons, List.map_nil, Act.eval, Array.getD_eq_getD_getElem?, Option.getD_some, e17, e24]; done) | (simp only [List.map_toArray, List.map_cons, List.map_nil, Act.eval, Array.getD_eq_getD_getElem?, Option.getD_some, e17, e24]; rfl)) hr_) ?_
          have hff := FF.out.grown hg_ (fun i hi => .inl (.inr (own_blk FV.out i hi)))
          have hfn := FN.out.trans (KeepsOthers.ofRow FV.out hg_)
          have hfc := (hg_.block Bo (Array.getElem?_eq_some_iff.1 FC.out).1 (fun e => absurd (own_blk FV.out Bo e.symm) (Nat.not_le.2 HBo.out))).trans FC.out
          refine hK.out _ _ ⟨A, c, g, v1, m4_, m5_, m6_, m7_, (by rw [ha.out]; exact putSel_upk 8 hb_ rfl rfl rfl), hff, hfn, fun _ => hfc, fun h0_ => absurd ((up_self b 8).symm.trans h0_) (by decide), fun _ => FA.out, fun _ h1_ => absurd ((up_self b 8).symm.trans h1_) (by decide), fun _ => hown_, fun h0_ => absurd ((hoff 9 (by kernel_rfl)).symm.trans h0_) (by decide), Q_X4_, Q_X5_, Q_X6_, Q_X7_⟩
        refine steps_cons ?_ ?_
        · rintro b a w' ⟨A, c, g, v2, m4_, m5_, m6_, m7_, ha, Q_FF, Q_FN, Q_FC, Q_FV, Q_FA, Q_FL, Q_FO, Q_FD, Q_X4_, Q_X5_, Q_X6_, Q_X7_⟩ hb_ hon hoff
          refine ⟨_, rfl, fun K hK => ?_⟩
          have e4 : a.tmps[4]? = some (.pointer (some ⟨Bo, 0, none⟩)) := by rw [ha]; exact (putSel_off rfl).trans rfl
          have e25 : a.tmps[25]? = some (v2) := by rw [ha]; exact putSel_on (e := (8, 25, v2)) 8 rfl rfl (hon 8 (by kernel_rfl)) rfl
          replace ha := Aside0.mk ha
          have FF := Aside0.mk Q_FF
          have FN := Aside0.mk Q_FN
          have FC := Aside0.mk (Q_FC hb_)
          have FA := Aside0.mk (Q_FA (hon 4 (by kernel_rfl)))
          have FO := Aside0.mk (Q_FO (hon 8 (by kernel_rfl)))
          have hc_ := cellOf FC.out 0
          simp only [List.getElem?_toArray, List.getElem?_cons_zero] at hc_
          have hfr_ := frozenOf FC.out 0
          have hft := (Foot.refl (fun i => i = Bo) w').setCell (p := ⟨Bo, 0, none⟩) (.inl rfl) v2
          refine skip_ (w1 := w'.setCell ⟨Bo, 0, none⟩ v2) (by rfl) rfl ?_ ?_
          · obtain ⟨A2, L2, c2, rfl, _⟩ := own_form FO.out
            go_simp
            try rfl
          have hfo := hft.own FO.out (fun i hi hiq => absurd (own_blk FO.out i hi) (by rw [hiq]; exact Nat.not_le.2 HBo.out))
          refine hK.out _ _ ⟨A, c, g, v2, m4_, m5_, m6_, m7_, (by rw [ha.out]; exact putSel_none (v := undef) rfl), FF.out.setCell (p := ⟨Bo, 0, none⟩) (.inl (.inl rfl)) v2, FN.out.trans (KeepsOthers.setCell _ _ _), fun h0_ => absurd ((up_self b 9).symm.trans h0_) (by decide), fun h0_ => absurd ((hon 8 (by kernel_rfl)).symm.trans h0_) (by decide), fun _ => FA.out, fun _ h1_ => absurd ((hon 8 (by kernel_rfl)).symm.trans h1_) (by decide), fun _ => hfo, fun _ => setCell_heap FC.out 0 v2, Q_X4_, Q_X5_, Q_X6_, Q_X7_⟩
        exact steps_nil
      · rintro b a w' hall ⟨A, c, g, v2, m4_, m5_, m6_, m7_, ha, Q_FF, Q_FN, Q_FC, Q_FV, Q_FA, Q_FL, Q_FO, Q_FD, Q_X4_, Q_X5_, Q_X6_, Q_X7_⟩
        clear FC FF FN FV
        have hb0_ := hall 0 (by kernel_rfl)
        have hb1_ := hall 1 (by kernel_rfl)
        have hb2_ := hall 2 (by kernel_rfl)
        have hb3_ := hall 3 (by kernel_rfl)
        have hb4_ := hall 4 (by kernel_rfl)
        have hb5_ := hall 5 (by kernel_rfl)
        have hb6_ := hall 6 (by kernel_rfl)
        have hb7_ := hall 7 (by kernel_rfl)
        have hb8_ := hall 8 (by kernel_rfl)
        have hb9_ := hall 9 (by kernel_rfl)
        subst ha
        obtain rfl := Q_X4_ hb4_
        obtain rfl := Q_X5_ hb5_
        obtain rfl := Q_X6_ hb6_
        obtain rfl := Q_X7_ hb7_
        simp only [putSel, hb0_, hb1_, hb2_, hb3_, hb4_, hb5_, hb6_, hb7_, hb8_, hb9_, if_true, Act.put, List.setIfInBounds_toArray, List.set_cons_zero, List.set_cons_succ]
        have FF := Aside0.mk Q_FF
        clear Q_FF
        have FN := Aside0.mk Q_FN
        clear Q_FN
        clear Q_FC
        clear Q_FV
        have FA := Aside0.mk (Q_FA hb4_)
        clear Q_FA
        clear Q_FL
        have FO := Aside0.mk (Q_FO hb8_)
        clear Q_FO
        have FD := Aside0.mk (Q_FD hb9_)
        clear Q_FD
        clear hall hb0_ hb1_ hb2_ hb3_ hb4_ hb5_ hb6_ hb7_ hb8_ hb9_
        gi_wp2
        exact ⟨FN.out, KeepC.ofFoot FF.out, ⟨v2, O ++ [(x, .slice A 1 1)], FD.out, by simpa using FO.out, by simp [HX.out.2.2]⟩, HX.out.1.trans (FF.out.below HFB.out HX.out.1.size), HX.out.2.1.trans (KeepC.ofFoot FF.out)⟩
  case done =>
    rintro D ys W hD rfl ⟨⟨v, O, hv, hO, hOx⟩, hBW, hKW⟩ hK
    obtain ⟨g, c, rfl, hg1, hg2, hg3, hg4⟩ := own_some hO (by decide)
    have c4 := cellOf hv 0
    have f4 := frozenOf hv 0
    simp only [List.getElem?_toArray, List.getElem?_cons_zero, List.length_cons, List.length_nil, Nat.reduceAdd] at c4
    have HCLP := aside' (Clip_copies (some ⟨g, 0, none⟩) 3 c W hg3 hg4 (fun ad e => by cases e; rfl))
    have HOO := aside' (And.intro hO (And.intro hOx (And.intro hv hK)))
    have hK2 := aside' hBW
    clear hO hOx hv hK hKW
    gi_wp2_with fail
    refine ⟨trivial, ?_⟩
    refine CallsIn.mono (callsIn_wide.2 HCLP.out) ?_
    rintro e w4 ⟨rfl, hw4⟩
    have hw4 := hw4.symm
    subst hw4
    gi_wp2
    obtain ⟨o1, o2, o3, o4⟩ := HOO.out
    have hs5 := setCell_heap o3 0 (.slice (some ⟨g, 0, none⟩) 3 3)
    have hKo := (KeepsOthers.setCell W ⟨w.heap.size + 1 + 1, 0, none⟩ (.slice (some ⟨g, 0, none⟩) 3 3)).same D _ o4 rfl
    have hne : w.heap.size + 1 + 1 ≠ D := by rintro rfl; rw [o3] at o4; cases o4
    obtain ⟨cg1, cg2⟩ := outCells_get O 1 (by have := congrArg List.length o2; simp at this; omega)
    obtain ⟨cg3, cg4⟩ := outCells_get O 2 (by have := congrArg List.length o2; simp at this; omega)
    have q1 := o1.cells (g := g) rfl _ _ cg1
    have q2 := o1.cells (g := g) rfl _ _ cg3
    rw [add_plain] at q1 q2
    have e1 : (O.getD 1 (0, .slice none 0 0)).1 = 2 := port_get O 1 2 (by rw [o2]; rfl)
    have e2 : (O.getD 2 (0, .slice none 0 0)).1 = 7 := port_get O 2 7 (by rw [o2]; rfl)
    rw [e1] at q1
    rw [e2] at q2
    have hgD : g ≠ D := by rintro rfl; rw [World.cell?, o4] at q1; cases q1
    have hgB : g ≠ w.heap.size + 1 + 1 := by omega
    have k1 : ∀ (i : Nat) (u : Value) (o : Obj), W.cell? ⟨g, i, none⟩ = some u → ((W.setCell ⟨w.heap.size + 1 + 1, 0, none⟩ (.slice (some ⟨g, 0, none⟩) 3 3)).putObj D o).cell? ⟨g, i, none⟩ = some u := fun i u o hu =>
      (World.cell?_of_block ((World.putObj_heap_other hgD).trans (Below.heap_setCell _ _ _ _ hgB))).trans hu
    refine ⟨by simp, .inl ⟨_, _, rfl, run_takeDeferred hKo, ?_⟩⟩
    refine ⟨_, results_sl_tmp rfl _ _ (w.heap.size + 1 + 1) _ rfl (cellOf ((World.putObj_heap_other hne).trans hs5) 0), ?_⟩
    exact ⟨g, rfl, ⟨k1 _ _ _ q1, k1 _ _ _ q2⟩, (hK2.out.setCell (p := ⟨_, _, _⟩) (by show w.heap.size ≤ w.heap.size + 1 + 1; omega) _).trans (belowK_b (w := w) (Nat.le_refl _) _ D _ _ (by omega) hKo rfl rfl)⟩
  case stop =>
    rintro D c pre W hD hpre h _
    exact h.elim
end Go.Proofs.YtdgilloblfbklabGreatDoor.Own
