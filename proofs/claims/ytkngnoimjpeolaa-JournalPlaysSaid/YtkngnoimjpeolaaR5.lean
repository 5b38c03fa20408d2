/-
  The document's journal: Open and Add.
-/
import Derived.Test.YtkngnoimjpeolaaR4
set_option linter.unusedVariables false
set_option linter.unusedSimpArgs false
namespace Go.Proofs.Ytkngnoimjpeolaa
open Go.RowKit SumsMath

theorem own_cap {w : World} {base n m c : Nat} {e : TypeId} {size : Nat} {A : Option Addr} {xs : List Value} (h : w.ownsRow base e size (.slice A m c) n xs) : c ≤ 9223372036854775807 := by
  rcases h.2 with ⟨h1, _⟩ | ⟨g, cap, cur, h1, _, _, _, hm, _⟩
  · injection h1 with _ _ h3; omega
  · injection h1 with _ _ h3; subst h3; simpa [maxLen] using hm
section
variable {G : Nat → Prop} {w : World} {g : Nat} {room : Int} {s : DSt} {xs : List Int} {A : Option Addr} {m c : Nat}
theorem R_add (h : RAt G w g room s) (hi : Inv room s) (hx : Bytes xs) (HR : Reads w .u8 A m xs) :
    Calls Try.prog 24 #[.pointer (some ⟨g, 0, none⟩), .slice A m c] w fun e w' => e = .returned (.int .i64 (addF room s xs).1) ∧ RTo G w w' g room (addF room s xs).2 := by
  have hm : xs.length = m := HR.1
  unfold addF
  rw [hm]
  by_cases hc : 1 ≤ m ∧ m ≤ 65537
  · rw [if_pos hc]
    have HF := aside' (RFrame_ok A m c xs w hx HR hc.1 hc.2)
    have HI := aside' (And.intro h hi)
    obtain ⟨X, hX⟩ : ∃ X, X = apF room s (frm xs) := ⟨_, rfl⟩
    rw [← hX]
    have HXX := aside' hX
    clear hX h hi hx HR hc
    go_enter Try.func24, Try.ntmps24
    go_wp2_with fail
    refine Calls.mono HF.out ?_
    rintro e w1 ⟨q, c', rfl, hc', hr1, hb1⟩
    have HA := aside' (R_append (HI.out.1.later hb1) HI.out.2 hr1 hc')
    rw [← HXX.out] at HA
    have HB1 := aside' hb1
    clear hr1 hb1 hc' HF
    go_wp2_with fail
    refine Calls.mono HA.out ?_
    rintro e w2 ⟨rfl, ht⟩
    go_wp2
    go_ret
    exact ⟨rfl, ht.after HB1.out⟩
  · rw [if_neg hc]
    have HF := aside' (RFrame_no A m c HR.2.1 (by omega) w)
    have HI := aside' h
    clear h hi hx HR hc
    go_enter Try.func24, Try.ntmps24
    go_wp2_with fail
    refine Calls.mono HF.out ?_
    rintro e w1 ⟨rfl, rfl⟩
    go_wp2
    go_ret
    exact ⟨rfl, RTo.same HI.out (Below.refl _ _)⟩
def ROpenedS (G : Nat → Prop) (w : World) (g : Nat) (room : Int) (s : DSt) (e : Ending) (w' : World) : Prop :=
  ∃ out, e = .returned (.tuple #[out, .int .i64 (openF s).1]) ∧ RowsAt w' w.heap.size out (openF s).2.1 ∧ RTo G w w' g room (openF s).2.2
theorem ropen_off (g : Nat) (w : World) (h2 : w.cell? ⟨g, 2, none⟩ = some (.bool true)) :
    Calls Try.prog 19 #[.pointer (some ⟨g, 0, none⟩)] w fun e w' => e = .returned (.tuple #[.slice none 0 0, .int .i64 13]) ∧ w = w' := by
  go_enter Try.func19, Try.ntmps19
  go_wp2
  go_ret2
  exact ⟨rfl, rfl⟩
theorem R_open (h : RAt G w g room s) (hi : Inv room s) : Calls Try.prog 19 #[.pointer (some ⟨g, 0, none⟩)] w (ROpenedS G w g room s) := by
  obtain ⟨bs, off, fl⟩ := s
  have hl := hi.hl
  have h2 := hi.h2
  simp only at hl
  have h' := h
  obtain ⟨hg, hF, v, set, n0, hb, hown, hv, hfl⟩ := h'
  unfold ROpenedS openF
  cases off with
  | true => exact (ropen_off g w (cellOf hb 2)).mono fun e w' ⟨he, hw⟩ => ⟨_, he, RowsAt.nil _ _, RTo.same h (hw ▸ Below.refl _ _)⟩
  | false =>
    have h2c : w.cell? ⟨g, 2, none⟩ = some (.bool false) := cellOf hb 2
    have H := aside' (And.intro h hi)
    have HB := aside' (R_bytes h hi)
    have htl := JMath.total_recs (sumF 2) (bs.length + 1) bs
    have htl2 : JMath.total (JMath.recsF (sumF 2) bs) ≤ bs.length := htl
    obtain ⟨tt, htt⟩ : ∃ tt, tt = JMath.total (JMath.recsF (sumF 2) bs) := ⟨_, rfl⟩
    rw [← htt] at htl2
    have HTT := aside' htt
    have hbl : bs.length ≤ 16777216 := by omega
    clear h htl htt hb hown hv hfl hi hF hg
    simp only [Bool.false_eq_true, if_false]
    go_enter Try.func19, Try.ntmps19
    go_wp2_with fail
    refine Calls.mono HB.out ?_
    rintro e w1 ⟨v1, rfl, hown1, hb1⟩
    obtain ⟨A1, c1, rfl, hc1, HR1⟩ := own_reads hown1
    have HRd := aside' (RRead_ok A1 bs.length c1 bs w1 H.out.2.hx HR1 (by omega) hc1 (own_cap hown1))
    rw [← HTT.out] at HRd
    have HB1 := aside' hb1
    clear hown1 HR1 hb1 HB
    go_wp2_with fail
    refine Calls.mono HRd.out ?_
    rintro e w2 ⟨out, rfl, hrows, hb2⟩
    have HB2 := aside' (HB1.out.trans (hb2.mono HB1.out.size))
    have HRows := aside' hrows
    have HTr := aside' (R_trim (s := ⟨bs, false, fl⟩) (n := tt) (H.out.1.later HB2.out) htl2)
    have hs1 := HB1.out.size
    have hs2 := hb2.size
    clear hrows hb2 HRd
    go_wp2_with fail
    refine Calls.mono HTr.out ?_
    rintro e w3 ⟨rfl, ht⟩
    have HT := aside' ht
    clear ht HTr
    go_wp2
    go_ret2
    refine ⟨out, rfl, (HRows.out.map (fun q cs t hq hh => HT.out.1.blk hh (fun hF => ?_))).base hs1, by rw [← HTT.out]; exact HT.out.after HB2.out⟩
    have := H.out.1.2.1 q hF
    omega
end
end Go.Proofs.Ytkngnoimjpeolaa
