/-
  The contract of journal.Read.
-/
import Derived.Test.YtdgilloblfbklaaGreatDoorRecs
import Derived.Test.YtdgilloblfbklaaGreatDoorRowsAt
import Derived.Test.YtdgilloblfbklaaGreatDoorFloatTail
import Derived.Test.YtdgilloblfbklaaGreatDoorRoundRegion
set_option linter.unusedVariables false
set_option linter.unusedSimpArgs false
namespace Go.Proofs.YtdgilloblfbklaaGreatDoor
open Go.RowKit SumsMath
attribute [local go_sem] Oper.semAt_some

theorem recs_seq (F0 : Nat → Prop) (Bn ab ao n c : Nat) (A : Option Addr) (bs : List Int) (w : World) (hA : 0 < n → A = some ⟨ab, ao, none⟩) (hFB : ¬ F0 Bn) (hFa : 0 < n → ¬ F0 ab) (hne : 0 < n → ab ≠ Bn) (hx : Bytes bs) (hn : n ≤ 1000000000) (hnc : n ≤ c)
    (hB : w.heap[Bn]? = some (.cells #[.slice A n c] 22 (0, 0))) (hR : Reads w .u8 A n bs) :
    SeqAt Fence.wide 2 Tryz.prog 108 #[.pointer (some ⟨Bn, 0, none⟩)] (segV ab ao c) (KeepC F0) Bn (JMath.segs (sumF 2) (n + 1) 0 bs) w :=
  fun l J W hW hl hJ hY h0 => recs_in F0 l Bn ab ao n c 1 A bs hA hFB hFa hne hx hn hnc J W hJ _ rfl hY ((hW.block Bn (Array.getElem?_eq_some_iff.1 hB).1).trans hB) (hR.below hW) h0

def segRow (bs : List Int) (s : Nat × Nat) : List Int := (bs.drop s.1).take s.2
theorem below_putObj {w W : World} (h : Below w.heap.size w W) (l : Nat) (hl : w.heap.size ≤ l) (o o' : Obj) (ho : W.heap[l]? = some o) : Below w.heap.size w (W.putObj l o') :=
  h.trans ((Below.refl w.heap.size W).grown (grownBy_putObj' W l o') (by have := (Array.getElem?_eq_some_iff.1 ho).1; omega) (fun k e => by cases e; omega))
theorem KeepsOthers.ofRow {W W' : World} {base n : Nat} {e : TypeId} {size : Nat} {v : Value} {xs : List Value} (ho : W.ownsRow base e size v n xs) (hg : W.grownBy W' v.ownBlock) : KeepsOthers W W' :=
  KeepsOthers.of_grownBy hg (fun j o hj hk => by
    rcases ho.2 with ⟨h1, _⟩ | ⟨g, cap, cur, h1, _, h3, _⟩
    · rw [h1] at hj; cases hj
    · rw [h1] at hj; injection hj with hj; subst hj; rw [h3] at hk; cases hk; rfl)
theorem segs_rows (bs : List Int) : (JMath.segs (sumF 2) (bs.length + 1) 0 bs).map (segRow bs) = JMath.recsF (sumF 2) bs := by
  have h := JMath.recs_segs (sumF 2) bs (bs.length + 1) 0
  rw [List.drop_zero] at h
  exact h.symm
theorem segRow_length (bs : List Int) (s : Nat × Nat) (h : s.1 + s.2 ≤ bs.length) : (segRow bs s).length = s.2 := by
  unfold segRow
  rw [List.length_take, List.length_drop]
  omega
/-- What the range holds. -/
def RdSt (w : World) (bs : List Int) (B0 Po Pn : Nat) (pre : List (Nat × Nat)) (W : World) : Prop :=
  ∃ out, W.heap[Po]? = some (.cells #[out] 24 (0, 0)) ∧ W.heap[Pn]? = some (.cells #[.int .i64 (JMath.total (pre.map (segRow bs)) : Int)] 3 (0, 0)) ∧ RowsAt W B0 out (pre.map (segRow bs)) ∧ Below w.heap.size w W ∧ B0 ≤ W.heap.size

theorem load_22 (W : World) (b : Nat) (v : Value) (h : W.cell? ⟨b, 0, none⟩ = some v) : (loadVar 24 ⟨b, 0, none⟩).run Tryz.prog W = .ok v W := by go_simp
theorem load_3 (W : World) (b : Nat) (v : Value) (h : W.cell? ⟨b, 0, none⟩ = some v) : (loadVar 3 ⟨b, 0, none⟩).run Tryz.prog W = .ok v W := by go_simp
theorem results_two (tmps : Array Value) (W : World) (b b' : Nat) (v v' : Value) (hp : tmps.getD 2 undef = .pointer (some ⟨b, 0, none⟩)) (hq : tmps.getD 3 undef = .pointer (some ⟨b', 0, none⟩)) (hc : W.cell? ⟨b, 0, none⟩ = some v) (hd : W.cell? ⟨b', 0, none⟩ = some v') :
    (results Tryz.f5 tmps).run Tryz.prog W = .ok (.tuple #[v, v']) W := by
  have hr : Tryz.f5.results = #[.cell 2 24, .cell 3 3] := rfl
  have hp' : tmps[2]?.getD undef = .pointer (some ⟨b, 0, none⟩) := by simpa using hp
  have hq' : tmps[3]?.getD undef = .pointer (some ⟨b', 0, none⟩) := by simpa using hq
  simp [results, hr, hp', hq', asAddr, load_22 W b v hc, load_3 W b' v' hd, Result.andThen]
set_option maxRecDepth 100000 in
set_option maxHeartbeats 3200000 in
theorem Read_ok (A : Option Addr) (n c : Nat) (bs : List Int) (w : World) (hx : Bytes bs) (hR : Reads w .u8 A n bs) (hn : n ≤ 1000000000) (hnc : n ≤ c) :
    Calls Tryz.prog 5 #[.slice A n c] w fun e w' => ∃ out, e = .returned (.tuple #[out, .int .i64 (JMath.total (JMath.recsF (sumF 2) bs) : Int)]) ∧ RowsAt w' w.heap.size out (JMath.recsF (sumF 2) bs) ∧ Below w.heap.size w w' := by
  have hl := hR.1
  have HR := aside' (And.intro hx (And.intro hR hl))
  obtain ⟨ab, ao, hA, hab⟩ : ∃ ab ao, (0 < n → A = some ⟨ab, ao, none⟩) ∧ (0 < n → ab < w.heap.size) := by
    rcases Nat.eq_zero_or_pos n with h | h
    · exact ⟨0, 0, fun h' => by omega, fun h' => by omega⟩
    · obtain ⟨b, off, h1, h2, _⟩ := hR.plain h
      exact ⟨b, off, fun _ => h1, fun _ => h2⟩
  have HA := aside' (And.intro hA hab)
  clear hx hR hl hA hab
  refine (callsIn_wide (n := 3)).1 ?_
  refine callsIn_of_wp_marks Tryz.func5 rfl trivial ?_ rfl
  simp only [Tryz.ntmps5, List.size_toArray, List.length_cons, List.length_nil, Nat.reduceAdd, Nat.reduceSub, Array.replicate_succ, Array.replicate_zero, List.push_toArray, List.append_toArray, List.nil_append, List.cons_append]
  gi_wp2_with fail
  refine ⟨trivial, ?_⟩
  refine CallsIn.mono (callsIn_wide.2 (records_any _ _ _ _)) ?_
  rintro e w5 ⟨rfl, rfl⟩
  obtain ⟨a1, a2, a3, a4, a5⟩ := alloc3 w (.cells #[.slice none 0 0] 24) (.cells #[.int .i64 0] 3) (.cells #[.slice A n c] 22)
  have HV := aside' (And.intro a1 (And.intro a2 (And.intro a3 (And.intro a4 a5))))
  clear a1 a2 a3 a4 a5
  gi_wp2_with fail
  generalize hVe : ((w.alloc (.cells #[.slice none 0 0] 24)).alloc (.cells #[.int .i64 0] 3)).alloc (.cells #[.slice A n c] 22) = V at *
  clear hVe
  have hs1 : V.heap.size = w.heap.size + 3 := HV.out.2.2.2.1
  have hVB : Below w.heap.size w V := HV.out.2.2.2.2
  have hmem : ∀ pre x, (pre ++ [x]) <+: JMath.segs (sumF 2) (n + 1) 0 bs → x.1 + x.2 ≤ n ∧ 1 ≤ x.2 ∧ x.2 ≤ 65537 := fun pre x hp => by
    have hm : x ∈ JMath.segs (sumF 2) (n + 1) 0 (bs.drop 0) := hp.subset (by simp)
    have := JMath.segs_in (sumF 2) bs (n + 1) 0 x hm
    have h2 := HR.out.2.2
    omega
  refine range_at rfl (by decide) (gf := 108) (lb := #[.pointer (some ⟨w.heap.size + 1 + 1, 0, none⟩)]) rfl trivial (enters_of Tryz.func108 (by kernel_rfl) rfl)
    (recs_seq (fun b => b = w.heap.size ∨ b = w.heap.size + 1 ∨ w.heap.size + 3 ≤ b) (w.heap.size + 1 + 1) ab ao n c A bs V HA.out.1 (by omega) (fun h => by have := HA.out.2 h; omega) (fun h => by have := HA.out.2 h; omega) HR.out.1 hn hnc HV.out.2.2.1 (HR.out.2.1.below hVB)) (by omega) KeepC.trans (fun W l o o' h hc => KeepC.putObj W l o o' h hc) (fun _ => rfl)
    (RdSt w bs (w.heap.size + 3) w.heap.size (w.heap.size + 1)) ?hIf ?hIp ⟨_, HV.out.1, HV.out.2.1, RowsAt.nil _ _, hVB, by omega⟩ ?round ?done
  case hIf =>
    rintro pre X Y ⟨out, h1, h2, h3, h4, h5⟩ hf
    exact ⟨out, hf.blk h1 (by omega), hf.blk h2 (by omega), h3.map (fun g cs t hg hh => hf.blk hh (by omega)), h4.trans (hf.below (fun i hi => by omega) h4.size), Nat.le_trans h5 hf.size⟩
  case hIp =>
    rintro pre X l o o' ⟨out, h1, h2, h3, h4, h5⟩ hl ho hc
    have key : ∀ (g : Nat) (cs : Array Value) (t : TypeId), X.heap[g]? = some (.cells cs t (0, 0)) → (X.putObj l o').heap[g]? = some (.cells cs t (0, 0)) := fun g cs t hh => by
      rw [World.putObj_heap_other (by rintro rfl; rw [hh] at ho; cases ho; cases hc)]; exact hh
    exact ⟨out, key _ _ _ h1, key _ _ _ h2, h3.map (fun g cs t _ hh => key _ _ _ hh), below_putObj h4 l (by omega) o o' ho, by simpa using h5⟩
  case round =>
    intro x
    apply Exists.intro
    refine ⟨?_, ?_⟩
    · intro l W K hK
      gi_wp2
      exact hK
    · rintro l pre W ⟨out, ho, hp, hrows, hB, hsz⟩ hpre
      obtain ⟨hm1, hm2, hm3⟩ := hmem pre x hpre
      obtain ⟨xo, xn⟩ := x
      simp only at hm1 hm2 hm3
      have HI := aside' (And.intro ho (And.intro hp (And.intro hrows (And.intro hB hpre))))
      have hRx := (HR.out.2.1.below hB)
      rw [HA.out.1 (by omega)] at hRx
      have HRX := aside' (hRx.part xo xn hm1)
      have hco : W.cell? ⟨w.heap.size, 0, none⟩ = some out := cellOf ho 0
      have hfo : W.frozen? ⟨w.heap.size, 0, none⟩ = false := frozenOf ho 0
      clear ho hp hrows hB hpre hRx hmem hVB
      unfold segV
      gi_wp2_with fail
      refine wpIn_region_round (by kernel_rfl) (by kernel_rfl) (fun ⟨_, _, h⟩ => h) (any_float (fun U => U.cell? ⟨w.heap.size, 0, none⟩ = some out) 4 [.float 0, .float 1, .one 2, .one 3] (by kernel_rfl) hco ?_)
      refine Pl.wp_float rfl rfl out (fun U hU => by go_simp) (fun _ _ _ h => h) ?_
      refine Pl.wp_float rfl rfl (.slice (some ⟨ab, ao + xo, none⟩) xn (c - xo)) (fun U hU => by go_simp) (fun _ _ _ h => h) ?_
      refine Pl.wp_one rfl rfl ?_
      have HN := aside' (World.ownsRow_nil W.drew (w.heap.size + 3) 5 1)
      refine wp_append_row (w.heap.size + 3) _ _ 22 5 .u8 1 rfl Tryz.underlying22 infoU8 (by omega) (.slice none 0 0) [] (segRow bs (xo, xn)) (some ⟨ab, ao + xo, none⟩) xn (c - xo) rfl rfl HN.out HRX.out hsz (by simp; omega) ?_
      intro v1 w1 hown1 hg1 hat1
      have hc1 : w1.cell? ⟨w.heap.size, 0, none⟩ = some out := (World.cell?_of_block (w := W) (hg1.block w.heap.size (by show _ < W.heap.size; omega) (by simp [Value.ownBlock]))).trans hco
      have hf1 : w1.frozen? ⟨w.heap.size, 0, none⟩ = false := (World.frozen?_of_block (w := W) (hg1.block w.heap.size (by show _ < W.heap.size; omega) (by simp [Value.ownBlock]))).trans hfo
      refine ⟨hc1, ?_⟩
      have HV1 := aside' (And.intro hown1 (And.intro hg1 hat1))
      have hxl : ([] ++ segRow bs (xo, xn)).length = xn := HRX.out.1
      obtain ⟨g, cg, rfl, hgb, hgs, hgc, _⟩ := own_some hown1 (by rw [hxl]; omega)
      clear hown1 hg1 hat1
      refine Pl.wp_value rfl rfl (.slice (some ⟨w1.heap.size, 0, none⟩) 1 1) (w1.alloc (.cells #[.slice (some ⟨g, 0, none⟩) ([] ++ segRow bs (xo, xn)).length cg] 22)) ?_ ?_ ?_
      · go_simp
      · exact (((Below.refl w1.heap.size w1).alloc (Nat.le_refl _) _).cell (p := ⟨w.heap.size, 0, none⟩) (by show w.heap.size < w1.heap.size; have h1 := HV1.out.2.1.size; have h2 : W.drew.heap.size = W.heap.size := rfl; omega)).trans hc1
      rw [hxl] at HV1
      rw [hxl]
      simp only [Pl.wp, List.drop]
      obtain ⟨vs, hvv⟩ := HI.out.2.2.1
      have HRV := aside' hvv
      obtain ⟨hv1, hv2, hv3⟩ := hvv
      have hpl : (pre.map (segRow bs)).length ≤ n := by
        have h1 := HI.out.2.2.2.2.length_le
        have h2 := JMath.segs_len (sumF 2) (n + 1) 0 bs
        simp only [List.length_append, List.length_singleton] at h1
        rw [List.length_map]
        omega
      have hgW : g = W.heap.size := by have := HV1.out.2.2; simpa [Value.ownBlock] using this
      have HO := aside' (show (w1.alloc (.cells #[.slice (some ⟨g, 0, none⟩) xn cg] 22)).ownsRow (w.heap.size + 3) 22 1 out (pre.map (segRow bs)).length vs from
        (own_map (W' := w1) hv2 (fun q cs t hb hq hh => (HV1.out.2.1.block q (own_lt hv2 hq).2 (by simp [Value.ownBlock])).trans hh)).alloc _)
      have HC := aside' (Cells.lit w1 22 #[.slice (some ⟨g, 0, none⟩) xn cg] 1 1 rfl (by intro u hu; simp at hu; subst hu; rfl))
      have hbs : w.heap.size + 3 ≤ (w1.alloc (.cells #[.slice (some ⟨g, 0, none⟩) xn cg] 22)).heap.size := by have h1 := HV1.out.2.1.size; have h2 : W.drew.heap.size = W.heap.size := rfl; simp; omega
      have HOB := aside' (show ∀ q, out.ownBlock = some q → w.heap.size + 3 ≤ q ∧ q < W.heap.size from fun q hq => own_lt hv2 hq)
      have hcp : W.cell? ⟨w.heap.size + 1, 0, none⟩ = some (.int .i64 (JMath.total (pre.map (segRow bs)) : Int)) := cellOf HI.out.2.1 0
      have hfp : W.frozen? ⟨w.heap.size + 1, 0, none⟩ = false := frozenOf HI.out.2.1 0
      have HK := aside' (show ∀ w2 : World, (w1.alloc (.cells #[.slice (some ⟨g, 0, none⟩) xn cg] 22)).grownBy w2 out.ownBlock → ∀ k, k < w.heap.size + 3 → w2.heap[k]? = W.heap[k]? from fun w2 hg2 k hk => by
        have h1 : W.heap.size ≤ w1.heap.size := HV1.out.2.1.size
        have h2 : k < W.heap.size := by omega
        rw [hg2.block k (by simp; omega) (fun e => by have := HOB.out k e.symm; omega), Below.heap_alloc _ _ _ (by omega)]
        exact HV1.out.2.1.block k h2 (by simp [Value.ownBlock]))
      clear hv2 hv3
      go_wp2_with (at_builtin; refine append_cells (w.heap.size + 3) rfl _ _ 24 22 (.slice none 0 0) 1 24 rfl Tryz.underlying24 infoSB rfl (by omega) (by omega) out (pre.map (segRow bs)).length vs [.slice (some ⟨g, 0, none⟩) xn cg] _ 1 1 rfl rfl HO.out HC.out hbs (by omega) ?_; intro v2 w2 hown2 hg2 hat2; obtain ⟨g2, c2, rfl, hgb2, hgs2, _, _⟩ := own_some hown2 (by omega); have hk2 := HK.out w2 hg2; have hc2 : w2.cell? ⟨w.heap.size, 0, none⟩ = some out := (World.cell?_of_block (w := W) (hk2 _ (by show w.heap.size < _; omega))).trans hco; have hf2 : w2.frozen? ⟨w.heap.size, 0, none⟩ = false := (World.frozen?_of_block (w := W) (hk2 _ (by show w.heap.size < _; omega))).trans hfo; have hc3 : w2.cell? ⟨w.heap.size + 1, 0, none⟩ = some (.int .i64 (JMath.total (pre.map (segRow bs)) : Int)) := (World.cell?_of_block (w := W) (hk2 _ (by show w.heap.size + 1 < _; omega))).trans hcp; have hf3 : w2.frozen? ⟨w.heap.size + 1, 0, none⟩ = false := (World.frozen?_of_block (w := W) (hk2 _ (by show w.heap.size + 1 < _; omega))).trans hfp; have HW2 := aside' (And.intro hown2 (And.intro hg2 (And.intro hat2 hk2))); clear hown2 hg2 hat2 hk2)
      obtain ⟨tt, htt⟩ : ∃ tt : Nat, tt = JMath.total (pre.map (segRow bs)) := ⟨_, rfl⟩
      rw [← htt] at hc3
      have htb : tt + 8 + xn ≤ n := by
        obtain ⟨rest, hrest⟩ := HI.out.2.2.2.2
        have h1 := JMath.total_recs (sumF 2) (bs.length + 1) bs
        have h2 := segs_rows bs
        unfold JMath.recsF at h2
        rw [← h2, HR.out.2.2, ← hrest, List.map_append, List.map_append, JMath.total_append, JMath.total_append, ← htt] at h1
        simp only [List.map_cons, List.map_nil, JMath.total] at h1
        rw [segRow_length bs (xo, xn) (by rw [HR.out.2.2]; exact hm1)] at h1
        simp only at h1
        omega
      have htb2 : (tt : Int) + (8 + (xn : Int)) ≤ 1000000000 := by omega
      have HTT := aside' htt
      clear htt htb
      gi_wp2
      have hW1 : W.heap.size ≤ w1.heap.size := HV1.out.2.1.size
      have hG1 : W.grownBy w1 none := ⟨HV1.out.2.1.os, HV1.out.2.1.tape, HV1.out.2.1.output, HV1.out.2.1.size, fun k hk _ => HV1.out.2.1.block k hk (by simp [Value.ownBlock])⟩
      have hF : Foot (fun b => b = w.heap.size ∨ b = w.heap.size + 1 ∨ w.heap.size + 3 ≤ b) W ((w2.setCell ⟨w.heap.size, 0, none⟩ (.slice (some ⟨g2, 0, none⟩) (pre.length + 1) c2)).setCell ⟨w.heap.size + 1, 0, none⟩ (.int .i64 ((tt : Int) + (8 + (xn : Int))))) :=
        ((((((Foot.refl _ W).grown hG1 (fun k e => by cases e)).alloc _).grown HW2.out.2.1 (fun k e => .inl (.inr (.inr (HOB.out k e).1)))).setCell (p := ⟨_, _, _⟩) (.inl (.inl rfl)) _).setCell (p := ⟨_, _, _⟩) (.inl (.inr (.inl rfl))) _)
      refine ⟨KeepsOthers.from ((((KeepsOthers.of_grownBy hG1 (fun j o e => by cases e)).trans (KeepsOthers.alloc _ _)).trans (KeepsOthers.ofRow HO.out HW2.out.2.1)).trans ((KeepsOthers.setCell _ _ _).trans (KeepsOthers.setCell _ _ _))) _, KeepC.ofFoot hF, ?_⟩
      have hP : w2.heap[w.heap.size]? = some (.cells #[out] 24 (0, 0)) := (HW2.out.2.2.2 _ (by omega)).trans HI.out.1
      have hQ : w2.heap[w.heap.size + 1]? = some (.cells #[.int .i64 (JMath.total (pre.map (segRow bs)) : Int)] 3 (0, 0)) := (HW2.out.2.2.2 _ (by omega)).trans HI.out.2.1
      have hlr := segRow_length bs (xo, xn) (by rw [HR.out.2.2]; exact hm1)
      simp only at hlr
      refine ⟨.slice (some ⟨g2, 0, none⟩) (pre.length + 1) c2, ?_, ?_, ?_, HI.out.2.2.2.1.trans (hF.below (fun i hi => by omega) HI.out.2.2.2.1.size), Nat.le_trans hsz hF.size⟩
      · rw [Below.heap_setCell _ _ _ _ (by show w.heap.size ≠ w.heap.size + 1; omega), setCell_heap hP]; rfl
      · rw [setCell_heap ((Below.heap_setCell _ _ _ _ (by show w.heap.size + 1 ≠ w.heap.size; omega)).trans hQ)]
        rw [List.map_append, JMath.total_append, ← HTT.out]
        simp only [List.map_cons, List.map_nil, JMath.total, hlr]
        have e : (tt : Int) + (8 + (xn : Int)) = ((tt + (8 + xn + 0) : Nat) : Int) := by omega
        rw [e]; rfl
      · rw [List.map_append, List.map_cons, List.map_nil]
        have hpush : RowsAt w2 (w.heap.size + 3) (.slice (some ⟨g2, 0, none⟩) (pre.length + 1) c2) (pre.map (segRow bs) ++ [segRow bs (xo, xn)]) := by
          refine RowsV.push (W := W) (W1 := w1) (v1 := .slice (some ⟨g, 0, none⟩) xn cg) HRV.out (by rw [hlr]; omega) (by rw [hlr]; simpa using HV1.out.1) hG1 (by show some g = some W.heap.size; rw [hgW]) (by have h1 := HW2.out.1; simp only [List.length_map] at h1 ⊢; exact h1) (fun q o hq hne hh => (HW2.out.2.1.block q (by simp; omega) (fun e => hne e.symm)).trans ((Below.heap_alloc _ _ _ hq).trans hh)) ?_
          rcases HW2.out.2.2.1 with h | h
          · left; simpa using h
          · right; exact ⟨_, by simpa using h, by simp⟩
        exact hpush.map (fun q cs t hq hh => by
          rw [Below.heap_setCell _ _ _ _ (by show q ≠ w.heap.size + 1; omega), Below.heap_setCell _ _ _ _ (by show q ≠ w.heap.size; omega)]
          exact hh)
  case done =>
    rintro D W hD ⟨out, ho, hp, hrows, hB, hsz⟩ hK
    rw [show n = bs.length from HR.out.2.2.symm, segs_rows bs] at hp hrows
    obtain ⟨tt, htt⟩ : ∃ tt : Nat, tt = JMath.total (JMath.recsF (sumF 2) bs) := ⟨_, rfl⟩
    rw [← htt] at hp
    have HTT := aside' htt
    have HP := aside' (And.intro ho (And.intro hp (And.intro hrows (And.intro hB hK))))
    have hc0 : W.cell? ⟨w.heap.size, 0, none⟩ = some out := cellOf ho 0
    have hc1 : W.cell? ⟨w.heap.size + 1, 0, none⟩ = some (.int .i64 (tt : Int)) := cellOf hp 0
    have hf0 : W.frozen? ⟨w.heap.size, 0, none⟩ = false := frozenOf ho 0
    have hf1 : W.frozen? ⟨w.heap.size + 1, 0, none⟩ = false := frozenOf hp 0
    clear ho hp hrows hB hK htt
    gi_wp2_with fail
    refine regionIn_float (fun U => U.cell? ⟨w.heap.size, 0, none⟩ = some out ∧ U.cell? ⟨w.heap.size + 1, 0, none⟩ = some (.int .i64 (tt : Int))) 3 [.float 0, .float 1, .one 2] letsR_wide (by kernel_rfl) (by kernel_rfl) (by kernel_rfl) ⟨hc0, hc1⟩ ?_
    intro K hK0
    refine Pl.wp_float rfl rfl out (fun U hU => by obtain ⟨u0, u1⟩ := hU; go_simp) (fun _ _ _ h => h) ?_
    refine Pl.wp_float rfl rfl (.int .i64 (tt : Int)) (fun U hU => by obtain ⟨u0, u1⟩ := hU; go_simp) (fun _ _ _ h => h) ?_
    obtain ⟨vs, hvs⟩ := HP.out.2.2.1
    obtain ⟨O, L, c3, rfl, HL⟩ := own_form hvs.2.1
    clear hvs vs
    have hP1 : (W.setCell ⟨w.heap.size, 0, none⟩ (.slice O L c3)).heap[w.heap.size]? = some (.cells #[.slice O L c3] 24 (0, 0)) := by rw [setCell_heap HP.out.1]; rfl
    have hQ1 : (W.setCell ⟨w.heap.size, 0, none⟩ (.slice O L c3)).heap[w.heap.size + 1]? = some (.cells #[.int .i64 (tt : Int)] 3 (0, 0)) := (Below.heap_setCell _ _ _ _ (by show w.heap.size + 1 ≠ w.heap.size; omega)).trans HP.out.2.1
    have c10 := cellOf hP1 0
    have c11 := cellOf hQ1 0
    have f11 := frozenOf hQ1 0
    simp only [List.getElem?_toArray, List.getElem?_cons_zero] at c10 c11
    have HPQ := aside' (And.intro hP1 hQ1)
    clear hP1 hQ1
    refine Pl.wp_skip rfl rfl (W.drew.setCell ⟨w.heap.size, 0, none⟩ (.slice O L c3)) (by go_simp) ⟨c10, c11⟩ ?_
    simp only [Pl.wp, List.drop]
    go_wp2
    show K _ _
    refine hK0 _ _ ?_
    gi_wp2
    have hKD : (((W.setCell ⟨w.heap.size, 0, none⟩ (.slice O L c3)).setCell ⟨w.heap.size + 1, 0, none⟩ (.int .i64 (tt : Int))).drew).heap[D]? = some (.deferred (some [])) := by
      show ((W.setCell _ _).setCell _ _).heap[D]? = _
      rw [Below.heap_setCell _ _ _ _ (by show D ≠ w.heap.size + 1; omega), Below.heap_setCell _ _ _ _ (by show D ≠ w.heap.size; omega)]
      exact HP.out.2.2.2.2
    refine ⟨by simp, .inl ⟨_, _, rfl, run_takeDeferred hKD, ?_⟩⟩
    have hX0 : (((W.setCell ⟨w.heap.size, 0, none⟩ (.slice O L c3)).setCell ⟨w.heap.size + 1, 0, none⟩ (.int .i64 (tt : Int))).drew).heap[w.heap.size]? = some (.cells #[.slice O L c3] 24 (0, 0)) := by
      show ((W.setCell _ _).setCell _ _).heap[_]? = _
      rw [Below.heap_setCell _ _ _ _ (by show w.heap.size ≠ w.heap.size + 1; omega)]
      exact HPQ.out.1
    have hX1 : (((W.setCell ⟨w.heap.size, 0, none⟩ (.slice O L c3)).setCell ⟨w.heap.size + 1, 0, none⟩ (.int .i64 (tt : Int))).drew).heap[w.heap.size + 1]? = some (.cells #[.int .i64 (tt : Int)] 3 (0, 0)) := by
      show ((W.setCell _ _).setCell _ _).heap[_]? = _
      rw [setCell_heap HPQ.out.2]; rfl
    have hBX : Below w.heap.size w (((W.setCell ⟨w.heap.size, 0, none⟩ (.slice O L c3)).setCell ⟨w.heap.size + 1, 0, none⟩ (.int .i64 (tt : Int))).drew) := below_drewN (((HP.out.2.2.2.1.setCell (p := ⟨_, _, _⟩) (Nat.le_refl _) _).setCell (p := ⟨_, _, _⟩) (Nat.le_succ _) _)) 1
    have hRX : RowsAt (((W.setCell ⟨w.heap.size, 0, none⟩ (.slice O L c3)).setCell ⟨w.heap.size + 1, 0, none⟩ (.int .i64 (tt : Int))).drew) (w.heap.size + 3) (.slice O L c3) (JMath.recsF (sumF 2) bs) := HP.out.2.2.1.map (fun q cs t hq hh => by
      show ((W.setCell _ _).setCell _ _).heap[_]? = _
      rw [Below.heap_setCell _ _ _ _ (by show q ≠ w.heap.size + 1; omega), Below.heap_setCell _ _ _ _ (by show q ≠ w.heap.size; omega)]
      exact hh)
    generalize (((W.setCell ⟨w.heap.size, 0, none⟩ (.slice O L c3)).setCell ⟨w.heap.size + 1, 0, none⟩ (.int .i64 (tt : Int))).drew) = X at *
    have key : ∀ (o' : Obj) (g : Nat) (cs : Array Value) (t : TypeId), X.heap[g]? = some (.cells cs t (0, 0)) → (X.putObj D o').heap[g]? = some (.cells cs t (0, 0)) := fun o' g cs t hh => by
      rw [World.putObj_heap_other (by rintro rfl; rw [hh] at hKD; cases hKD)]; exact hh
    refine ⟨_, results_two _ _ _ _ _ _ rfl rfl (cellOf (key _ _ _ _ hX0) 0) (cellOf (key _ _ _ _ hX1) 0), ?_⟩
    exact ⟨.slice O L c3, by rw [HTT.out]; rfl, (hRX.map (fun q cs t _ hh => key _ _ _ _ hh)).base (by omega), below_putObj hBX D (by omega) _ _ hKD⟩
end Go.Proofs.YtdgilloblfbklaaGreatDoor
