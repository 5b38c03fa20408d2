/-
  The contracts of journal.Add and journal.Open, over what a disk keeps.
-/
import Derived.Test.YtkngnoimjpeolaaJSame
import Derived.Test.YtkngnoimjpeolaaDiskS
set_option linter.unusedVariables false
set_option linter.unusedSimpArgs false
namespace Go.Proofs.Ytkngnoimjpeolaa
open Go.RowKit SumsMath

theorem DiskTo.after {F : Nat → Prop} {w w1 w' : World} {g : Nat} {room : Int} {bs : List Int} {off : Bool} {fl : Option Int} (hb : Below w.heap.size w w1) (h : DiskTo F w1 w' g room bs off fl) : DiskTo F w w' g room bs off fl := by
  obtain ⟨hf, F', hF', hD⟩ := h
  exact ⟨(Foot.ofBelow hb F).trans hf (fun i hi => .inl hi), F', fun k hk => (hF' k hk).imp id (fun h => Nat.le_trans hb.size h), hD⟩
theorem DiskAt.later {F : Nat → Prop} {w w1 : World} {g : Nat} {room : Int} {bs : List Int} {off : Bool} {fl : Option Int} (h : DiskAt F w g room bs off fl) (hb : Below w.heap.size w w1) : DiskAt F w1 g room bs off fl :=
  h.foot (Foot.ofBelow hb (fun _ => False)) (fun _ _ h => h)
theorem DiskTo.same {F : Nat → Prop} {w w1 : World} {g : Nat} {room : Int} {bs : List Int} {off : Bool} {fl : Option Int} (h : DiskAt F w g room bs off fl) (hb : Below w.heap.size w w1) : DiskTo F w w1 g room bs off fl :=
  ⟨Foot.ofBelow hb F, F, fun k hk => .inl hk, h.later hb⟩
theorem trim_neg (g : Nat) (room : Int) (A : Option Addr) (m c : Nat) (w : World) (h0 : w.cell? ⟨g, 0, none⟩ = some (.int .i64 room)) (h1 : w.cell? ⟨g, 1, none⟩ = some (.slice A m c)) (h2 : w.cell? ⟨g, 2, none⟩ = some (.bool false)) (hr : (room == 0) = false) :
    Calls Try.prog 33 #[.pointer (some ⟨g, 0, none⟩), .int .i64 (-1)] w fun e w' => e = .returned (.int .i64 1) ∧ w = w' := by
  go_enter Try.func33, Try.ntmps33
  go_wp2_with (go_at_call 34; refine (ready_any g room _ _ h0 h2 hr).mono ?_; rintro e w' ⟨rfl, rfl⟩)
  go_wp2
  go_ret
  exact ⟨rfl, rfl⟩
theorem Trim_neg {F : Nat → Prop} {w : World} {g : Nat} {room : Int} {bs : List Int} {fl : Option Int} (h : DiskAt F w g room bs false fl) (hr1 : 1 ≤ room) :
    Calls Try.prog 33 #[.pointer (some ⟨g, 0, none⟩), .int .i64 (-1)] w fun e w' => e = .returned (.int .i64 1) ∧ w = w' := by
  obtain ⟨hg, hF, v, fv, hb, hown, hv, hfl⟩ := h
  obtain ⟨D, d, rfl, hnd, HD⟩ := own_reads hown
  exact trim_neg g room D bs.length d w (cellOf hb 0) (cellOf hb 1) (cellOf hb 2) (by simp; omega)

section
variable {F : Nat → Prop} {w : World} {g : Nat} {room : Int} {bs xs : List Int} {fl : Option Int} {A : Option Addr} {m c : Nat}
/-- What Add comes to, where bytes may be framed. -/
theorem Add_with (T : Int) (X : Int) (R : World → Prop) (hx : Bytes xs) (HR : Reads w .u8 A m xs) (h1 : 1 ≤ m) (h2 : m ≤ 65537) (hT : T ≠ 2)
    (htrim : ∀ w1, Below w.heap.size w w1 → Calls Try.prog 33 #[.pointer (some ⟨g, 0, none⟩), .int .i64 (-1)] w1 fun e w' => e = .returned (.int .i64 T) ∧ w1 = w')
    (happ : ∀ w1 q, Below w.heap.size w w1 → Reads w1 .u8 (some ⟨q, 0, none⟩) (8 + m) (frm xs) → Calls Try.prog 22 #[.pointer (some ⟨g, 0, none⟩), .slice (some ⟨q, 0, none⟩) (8 + m) (8 + m)] w1 fun e w' => e = .returned (.int .i64 X) ∧ R w') :
    Calls Try.prog 13 #[.pointer (some ⟨g, 0, none⟩), .slice A m c] w fun e w' => e = .returned (.int .i64 X) ∧ R w' := by
  have HF := aside' (Frame_ok A m c xs w hx HR h1 h2)
  have HT := aside' htrim
  have HP := aside' happ
  have hlf : (frm xs).length = 8 + m := by rw [frm, JMath.frame_length, HR.1]
  have HL := aside' hlf
  have t2 : (T == 2) = false := by simpa using hT
  clear hx HR htrim happ hlf hT
  go_enter Try.func13, Try.ntmps13
  go_wp2_with fail
  refine Calls.mono HF.out ?_
  rintro e w1 ⟨q, rfl, hq1, hq2, hb1⟩
  have HA := aside' (HP.out w1 q hb1 (reads_block hq2 rfl HL.out (by omega)))
  have HB := aside' (HT.out w1 hb1)
  clear hq1 hq2 hb1 HF
  go_wp2_with fail
  refine Calls.mono HB.out ?_
  rintro e w2 ⟨rfl, rfl⟩
  go_wp2_with fail
  refine Calls.mono HA.out ?_
  rintro e w3 ⟨rfl, hR⟩
  go_wp2
  go_ret
  exact ⟨rfl, hR⟩
theorem Add_ok (h : DiskAt F w g room bs false none) (hx : Bytes xs) (HR : Reads w .u8 A m xs) (h1 : 1 ≤ m) (h2 : m ≤ 65537) (hr1 : 1 ≤ room) (hr2 : room ≤ 16777216) (hroom : 8 + (m : Int) ≤ room - (bs.length : Int)) :
    Calls Try.prog 13 #[.pointer (some ⟨g, 0, none⟩), .slice A m c] w fun e w' => e = .returned (.int .i64 0) ∧ DiskTo F w w' g room (bs ++ frm xs) false none :=
  Add_with 1 0 _ hx HR h1 h2 (by decide) (fun w1 hb => Trim_neg (h.later hb) hr1) (fun w1 q hb hq => (Append_ok (h.later hb) hq hr1 hr2 (by omega)).mono fun e w' ⟨he, ht⟩ => ⟨he, ht.after hb⟩)
theorem Add_fail {n : Int} (h : DiskAt F w g room bs false (some n)) (hx : Bytes xs) (HR : Reads w .u8 A m xs) (h1 : 1 ≤ m) (h2 : m ≤ 65537) (hr1 : 1 ≤ room) (hr2 : room ≤ 16777216) (hroom : 8 + (m : Int) ≤ room - (bs.length : Int)) :
    Calls Try.prog 13 #[.pointer (some ⟨g, 0, none⟩), .slice A m c] w fun e w' => e = .returned (.int .i64 13) ∧ DiskTo F w w' g room (bs ++ (frm xs).take n.toNat) true none :=
  Add_with 1 13 _ hx HR h1 h2 (by decide) (fun w1 hb => Trim_neg (h.later hb) hr1) (fun w1 q hb hq => (Append_fail (h.later hb) hq (Nat.le_refl _) hr1 hr2 (by omega)).mono fun e w' ⟨he, ht⟩ => ⟨he, ht.after hb⟩)
theorem Add_bad (h : DiskAt F w g room bs false fl) (hm : m ≤ 9223372036854775807) (hb : m < 1 ∨ 65537 < m) (hr1 : 1 ≤ room) :
    Calls Try.prog 13 #[.pointer (some ⟨g, 0, none⟩), .slice A m c] w fun e w' => e = .returned (.int .i64 1) ∧ w' = w := by
  have HF := aside' (Frame_no A m c hm hb w)
  have HT := aside' (Trim_neg h hr1)
  clear h hb
  go_enter Try.func13, Try.ntmps13
  go_wp2_with fail
  refine Calls.mono HF.out ?_
  rintro e w1 ⟨rfl, rfl⟩
  go_wp2_with fail
  refine Calls.mono HT.out ?_
  rintro e w2 ⟨rfl, rfl⟩
  go_wp2
  go_ret
  exact ⟨rfl, rfl⟩

/-- What Open comes to. -/
def Opened (F : Nat → Prop) (w : World) (g : Nat) (room : Int) (bs : List Int) (fl : Option Int) (e : Ending) (w' : World) : Prop :=
  ∃ out, e = .returned (.tuple #[out, .int .i64 0]) ∧ RowsAt w' w.heap.size out (JMath.recsF (sumF 2) bs) ∧ DiskTo F w w' g room (bs.take (JMath.total (JMath.recsF (sumF 2) bs))) false fl
theorem Open_ok (h : DiskAt F w g room bs false fl) (hx : Bytes bs) (hr1 : 1 ≤ room) (hm : bs.length ≤ 16777216) :
    Calls Try.prog 16 #[.pointer (some ⟨g, 0, none⟩)] w (Opened F w g room bs fl) := by
  have H := aside' h
  have HB := aside' (Bytes_ok h hm)
  have htl := JMath.total_recs (sumF 2) (bs.length + 1) bs
  have HX := aside' hx
  have htl2 : JMath.total (JMath.recsF (sumF 2) bs) ≤ bs.length := htl
  obtain ⟨tt, htt⟩ : ∃ tt, tt = JMath.total (JMath.recsF (sumF 2) bs) := ⟨_, rfl⟩
  rw [← htt] at htl2
  have HTT := aside' htt
  clear h hx htl htt
  go_enter Try.func16, Try.ntmps16
  go_wp2_with fail
  refine Calls.mono HB.out ?_
  rintro e w1 ⟨v, rfl, hown, hb1⟩
  obtain ⟨A, c, rfl, hc, HR⟩ := own_reads hown
  have HRd := aside' (Read_ok A bs.length c bs w1 HX.out HR (by omega) hc)
  rw [← HTT.out] at HRd
  have HB1 := aside' hb1
  clear hown HR hb1 HB
  go_wp2_with fail
  refine Calls.mono HRd.out ?_
  rintro e w2 ⟨out, rfl, hrows, hb2⟩
  have HB2 := aside' (HB1.out.trans (hb2.mono HB1.out.size))
  have HRows := aside' hrows
  have HTr := aside' (Trim_yes (H.out.later HB2.out) hr1 htl2)
  have hs1 := HB1.out.size
  have hs2 := hb2.size
  clear hrows hb2 HRd
  go_wp2_with fail
  refine Calls.mono HTr.out ?_
  rintro e w3 ⟨rfl, ht⟩
  have HT := aside' ht
  clear ht HTr
  go_wp2
  go_ret2
  refine ⟨out, rfl, (HRows.out.map (fun q cs t hq hh => HT.out.1.blk hh (fun hF => ?_))).base hs1, by rw [← HTT.out]; exact HT.out.after HB2.out⟩
  have := H.out.2.1 q hF
  omega
theorem Open_off (h : DiskAt F w g room bs true fl) (hx : Bytes bs) (hr1 : 1 ≤ room) (hm : bs.length ≤ 16777216) :
    Calls Try.prog 16 #[.pointer (some ⟨g, 0, none⟩)] w fun e w' => e = .returned (.tuple #[.slice none 0 0, .int .i64 13]) ∧ Below w.heap.size w w' := by
  have H := aside' h
  have HB := aside' (Bytes_ok h hm)
  have HX := aside' hx
  clear h hx
  go_enter Try.func16, Try.ntmps16
  go_wp2_with fail
  refine Calls.mono HB.out ?_
  rintro e w1 ⟨v, rfl, hown, hb1⟩
  obtain ⟨A, c, rfl, hc, HR⟩ := own_reads hown
  have HRd := aside' (Read_ok A bs.length c bs w1 HX.out HR (by omega) hc)
  have HB1 := aside' hb1
  clear hown HR hb1 HB
  go_wp2_with fail
  refine Calls.mono HRd.out ?_
  rintro e w2 ⟨out, rfl, hrows, hb2⟩
  have HB2 := aside' (HB1.out.trans (hb2.mono HB1.out.size))
  have HTr := aside' (Trim_off (n := (JMath.total (JMath.recsF (sumF 2) bs) : Int)) (H.out.later HB2.out) hr1)
  generalize (JMath.total (JMath.recsF (sumF 2) bs) : Int) = tt at *
  clear hrows hb2 HRd
  go_wp2_with fail
  refine Calls.mono HTr.out ?_
  rintro e w3 ⟨rfl, rfl⟩
  go_wp2
  go_ret2
  exact ⟨rfl, HB2.out⟩
end
end Go.Proofs.Ytkngnoimjpeolaa
