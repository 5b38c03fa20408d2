/-
  Insert, Modify, Delete and Find, as the printed texts ask for them.
-/
import Derived.Test.YtdfmeclhpefmfaaBaB
import Derived.Test.YtdfmeclhpefmfaaBaK5
import Derived.Test.YtdfmeclhpefmfaaBaK4
import Derived.Test.YtdfmeclhpefmfaaBaK6
import Derived.Test.YtdfmeclhpefmfaaBaA
set_option linter.unusedVariables false
set_option linter.unusedSimpArgs false
namespace Go.Proofs.Ytdfmeclhpefmfaa.K
open Go.RowKit Go.Proofs.Ytdfmeclhpefmfaa.Own YtdfmeclhpefmfaaW.PrintWords YtdfmeclhpefmfaaW.PrintLast YtdfmeclhpefmfaaW.PrintMore

/-- Sizes that append takes, told. -/
def okSize (l : List S30) (ms : List S42) (gs : List S40) : Bool := decide (l.length ≤ 100000) && (l.all (fun x => decide (x.f0.length ≤ 1000000) && decide (x.f3.length ≤ 1000000)) && (decide (ms.length ≤ 1000000) && decide (gs.length ≤ 1000000)))
theorem okSize_iff {l : List S30} {ms : List S42} {gs : List S40} (h : okSize l ms gs = true) : small l ∧ ms.length ≤ 1000000 ∧ gs.length ≤ 1000000 := by
  simp only [okSize, Bool.and_eq_true, decide_eq_true_eq, List.all_eq_true] at h
  exact ⟨⟨h.1, fun x hx => h.2.1 x hx⟩, h.2.2.1, h.2.2.2⟩
theorem step_ents {W W' : World} {base : Nat} {l : List S30} {us : List EV} (h : Ents W base l us) (hm : ∀ k, base ≤ k → k < W.heap.size → W'.heap[k]? = W.heap[k]?) : Ents W' base l us :=
  ⟨h.len, fun i hi => ⟨(h.ok i hi).m.step (fun k hk => hm k ((h.ok i hi).m.lt k hk).1 ((h.ok i hi).m.lt k hk).2), (h.ok i hi).a.step (fun k hk => hm k ((h.ok i hi).a.lt k hk).1 ((h.ok i hi).a.lt k hk).2)⟩, h.apart⟩
theorem V_of_ans {w w' : World} {v : Value} {l : List S30} (h : Ans w w' v l) : Kd.V k30 30 w' w.heap.size (fun k_ => (w.heap.size ≤ k_)) v l := by
  obtain ⟨us, hr, hE⟩ := h
  obtain ⟨A, c, rfl, h1, h2, _⟩ := hr.form
  refine ⟨A, c, rfl, h1, fun W' hW' => ?_⟩
  exact (step_ents hE hW').reads (hr.step (fun k hk => hW' k (hr.lt k hk).1 (hr.lt k hk).2)) (by simp only [maxLen] at h2; omega)
def match_Insert.f (l0_0 : List Int) (l0_1 : List Int) (a0_2 : Int) (l1 : List (S30)) (l2_0 : List (S42)) (a2_1 : Int) (a2_2 : ByteArray) (l2_3 : List (S40)) : Option ((List (S30)) × Int) :=
  if okSize l1 l2_0 l2_3 then some (insP l0_0 l0_1 a0_2 l1 ⟨l2_0, a2_1, a2_2, l2_3⟩) else none
def match_Modify.f (l0_0 : List Int) (l0_1 : List Int) (a0_2 : Int) (l1 : List (S30)) (l2_0 : List (S42)) (a2_1 : Int) (a2_2 : ByteArray) (l2_3 : List (S40)) : Option ((List (S30)) × Int) :=
  if okSize l1 l2_0 l2_3 then some (modP l0_0 l0_1 a0_2 l1 ⟨l2_0, a2_1, a2_2, l2_3⟩) else none
def match_Delete.f (l0_0 : List Int) (l0_1 : List Int) (a0_2 : Int) (l1 : List (S30)) (l2_0 : List (S42)) (a2_1 : Int) (a2_2 : ByteArray) (l2_3 : List (S40)) : Option ((List (S30)) × Int) :=
  if okSize l1 l2_0 l2_3 then some (delP l0_0 l0_1 a0_2 l1 ⟨l2_0, a2_1, a2_2, l2_3⟩) else none
def match_Find.f (l0_0 : List Int) (l0_1 : List Int) (a0_2 : Int) (l1 : List (S30)) (l2 : List (S40)) : Option (Int) := some (findP l0_0 l0_1 a0_2 l1 l2)
theorem ok_of {P : Prop} [Decidable P] {α : Type} {x : α} {y : α} (h : (if P then some x else none) = some y) : P ∧ x = y := by
  split at h
  · injection h with h
    exact ⟨by assumption, h⟩
  · cases h
theorem match_Insert.calls (A0_0 : Option Addr) (c0_0 : Nat) (l0_0 : List Int) (A0_1 : Option Addr) (c0_1 : Nat) (l0_1 : List Int) (a0_2 : Int) (A1 : Option Addr) (c1 : Nat) (l1 : List (S30)) (A2_0 : Option Addr) (c2_0 : Nat) (l2_0 : List (S42)) (a2_1 : Int) (a2_2 : ByteArray) (A2_3 : Option Addr) (c2_3 : Nat) (l2_3 : List (S40)) (r1 : List (S30)) (r2 : Int) (w : World) (hr0_0 : Kd.C (Kd.int .u8) w A0_0 l0_0.length l0_0) (hc0_0 : l0_0.length ≤ c0_0) (hr0_1 : Kd.C (Kd.int .i64) w A0_1 l0_1.length l0_1) (hc0_1 : l0_1.length ≤ c0_1) (hr1 : Kd.C k30 w A1 l1.length l1) (hc1 : l1.length ≤ c1) (hr2_0 : Kd.C k42 w A2_0 l2_0.length l2_0) (hc2_0 : l2_0.length ≤ c2_0) (hr2_3 : Kd.C k40 w A2_3 l2_3.length l2_3) (hc2_3 : l2_3.length ≤ c2_3) (h : match_Insert.f l0_0 l0_1 a0_2 l1 l2_0 a2_1 a2_2 l2_3 = some (r1, r2)) :
    Calls Try.prog 10 #[.agg #[.slice A0_0 l0_0.length c0_0, .slice A0_1 l0_1.length c0_1, .int .i64 a0_2], .slice A1 l1.length c1, .agg #[.slice A2_0 l2_0.length c2_0, .int .i64 a2_1, .string a2_2, .slice A2_3 l2_3.length c2_3]] w fun e w' => ∃ v0_ : Value, e = .returned (.tuple #[v0_, .int .i64 r2]) ∧ Kd.V k30 30 w' w.heap.size (fun k_ => (w.heap.size ≤ k_)) v0_ r1 ∧ Below w.heap.size w w' := by
  obtain ⟨hs, hv⟩ := ok_of h
  obtain ⟨h1, h2, h3⟩ := okSize_iff hs
  refine (insert_any a0_2 l1 ⟨l2_0, a2_1, a2_2, l2_3⟩ w ⟨hr0_0, hc0_0, hr0_1, hc0_1⟩ hr2_0 hc2_0 hr2_3 hc2_3 hr1 hc1 h1 ⟨h2, h3⟩).mono ?_
  rw [hv]
  rintro e w' ⟨v, he, ha, hb⟩
  exact ⟨v, he, V_of_ans ha, hb⟩
theorem match_Modify.calls (A0_0 : Option Addr) (c0_0 : Nat) (l0_0 : List Int) (A0_1 : Option Addr) (c0_1 : Nat) (l0_1 : List Int) (a0_2 : Int) (A1 : Option Addr) (c1 : Nat) (l1 : List (S30)) (A2_0 : Option Addr) (c2_0 : Nat) (l2_0 : List (S42)) (a2_1 : Int) (a2_2 : ByteArray) (A2_3 : Option Addr) (c2_3 : Nat) (l2_3 : List (S40)) (r1 : List (S30)) (r2 : Int) (w : World) (hr0_0 : Kd.C (Kd.int .u8) w A0_0 l0_0.length l0_0) (hc0_0 : l0_0.length ≤ c0_0) (hr0_1 : Kd.C (Kd.int .i64) w A0_1 l0_1.length l0_1) (hc0_1 : l0_1.length ≤ c0_1) (hr1 : Kd.C k30 w A1 l1.length l1) (hc1 : l1.length ≤ c1) (hr2_0 : Kd.C k42 w A2_0 l2_0.length l2_0) (hc2_0 : l2_0.length ≤ c2_0) (hr2_3 : Kd.C k40 w A2_3 l2_3.length l2_3) (hc2_3 : l2_3.length ≤ c2_3) (h : match_Modify.f l0_0 l0_1 a0_2 l1 l2_0 a2_1 a2_2 l2_3 = some (r1, r2)) :
    Calls Try.prog 14 #[.agg #[.slice A0_0 l0_0.length c0_0, .slice A0_1 l0_1.length c0_1, .int .i64 a0_2], .slice A1 l1.length c1, .agg #[.slice A2_0 l2_0.length c2_0, .int .i64 a2_1, .string a2_2, .slice A2_3 l2_3.length c2_3]] w fun e w' => ∃ v0_ : Value, e = .returned (.tuple #[v0_, .int .i64 r2]) ∧ Kd.V k30 30 w' w.heap.size (fun k_ => (w.heap.size ≤ k_)) v0_ r1 ∧ Below w.heap.size w w' := by
  obtain ⟨hs, hv⟩ := ok_of h
  obtain ⟨h1, h2, h3⟩ := okSize_iff hs
  refine (modify_ok a0_2 l1 ⟨l2_0, a2_1, a2_2, l2_3⟩ w ⟨hr0_0, hc0_0, hr0_1, hc0_1⟩ hr2_0 hc2_0 hr2_3 hc2_3 hr1 hc1 h1 ⟨h2, h3⟩).mono ?_
  rw [hv]
  rintro e w' ⟨v, he, ha, hb⟩
  exact ⟨v, he, V_of_ans ha, hb⟩
theorem match_Delete.calls (A0_0 : Option Addr) (c0_0 : Nat) (l0_0 : List Int) (A0_1 : Option Addr) (c0_1 : Nat) (l0_1 : List Int) (a0_2 : Int) (A1 : Option Addr) (c1 : Nat) (l1 : List (S30)) (A2_0 : Option Addr) (c2_0 : Nat) (l2_0 : List (S42)) (a2_1 : Int) (a2_2 : ByteArray) (A2_3 : Option Addr) (c2_3 : Nat) (l2_3 : List (S40)) (r1 : List (S30)) (r2 : Int) (w : World) (hr0_0 : Kd.C (Kd.int .u8) w A0_0 l0_0.length l0_0) (hc0_0 : l0_0.length ≤ c0_0) (hr0_1 : Kd.C (Kd.int .i64) w A0_1 l0_1.length l0_1) (hc0_1 : l0_1.length ≤ c0_1) (hr1 : Kd.C k30 w A1 l1.length l1) (hc1 : l1.length ≤ c1) (hr2_0 : Kd.C k42 w A2_0 l2_0.length l2_0) (hc2_0 : l2_0.length ≤ c2_0) (hr2_3 : Kd.C k40 w A2_3 l2_3.length l2_3) (hc2_3 : l2_3.length ≤ c2_3) (h : match_Delete.f l0_0 l0_1 a0_2 l1 l2_0 a2_1 a2_2 l2_3 = some (r1, r2)) :
    Calls Try.prog 15 #[.agg #[.slice A0_0 l0_0.length c0_0, .slice A0_1 l0_1.length c0_1, .int .i64 a0_2], .slice A1 l1.length c1, .agg #[.slice A2_0 l2_0.length c2_0, .int .i64 a2_1, .string a2_2, .slice A2_3 l2_3.length c2_3]] w fun e w' => ∃ v0_ : Value, e = .returned (.tuple #[v0_, .int .i64 r2]) ∧ Kd.V k30 30 w' w.heap.size (fun k_ => (w.heap.size ≤ k_)) v0_ r1 ∧ Below w.heap.size w w' := by
  obtain ⟨hs, hv⟩ := ok_of h
  obtain ⟨h1, h2, h3⟩ := okSize_iff hs
  refine (delete_ok a0_2 l1 ⟨l2_0, a2_1, a2_2, l2_3⟩ w ⟨hr0_0, hc0_0, hr0_1, hc0_1⟩ hr2_0 hc2_0 hr2_3 hc2_3 hr1 hc1 h1 ⟨h2, h3⟩).mono ?_
  rw [hv]
  rintro e w' ⟨v, he, ha, hb⟩
  exact ⟨v, he, V_of_ans ha, hb⟩
theorem match_Find.calls (A0_0 : Option Addr) (c0_0 : Nat) (l0_0 : List Int) (A0_1 : Option Addr) (c0_1 : Nat) (l0_1 : List Int) (a0_2 : Int) (A1 : Option Addr) (c1 : Nat) (l1 : List (S30)) (A2 : Option Addr) (c2 : Nat) (l2 : List (S40)) (r : Int) (w : World) (hr0_0 : Kd.C (Kd.int .u8) w A0_0 l0_0.length l0_0) (hc0_0 : l0_0.length ≤ c0_0) (hr0_1 : Kd.C (Kd.int .i64) w A0_1 l0_1.length l0_1) (hc0_1 : l0_1.length ≤ c0_1) (hr1 : Kd.C k30 w A1 l1.length l1) (hc1 : l1.length ≤ c1) (hr2 : Kd.C k40 w A2 l2.length l2) (hc2 : l2.length ≤ c2) (h : match_Find.f l0_0 l0_1 a0_2 l1 l2 = some r) :
    Calls Try.prog 11 #[.agg #[.slice A0_0 l0_0.length c0_0, .slice A0_1 l0_1.length c0_1, .int .i64 a0_2], .slice A1 l1.length c1, .slice A2 l2.length c2] w fun e w' => e = .returned (.int .i64 r) ∧ Below w.heap.size w w' := by
  injection h with h
  have := find_ok a0_2 l1 l2 w ⟨hr0_0, hc0_0, hr0_1, hc0_1⟩ hr1 hc1 hr2 hc2
  rwa [h] at this
end Go.Proofs.Ytdfmeclhpefmfaa.K

/- lives: the chapter's prefixes. -/
set_option linter.unusedVariables false
set_option linter.unusedSimpArgs false
set_option maxRecDepth 100000
namespace Go.Proofs.Ytdfmeclhpefmfaa.K
open Go.RowKit Go.Proofs.Ytdfmeclhpefmfaa.Own YtdfmeclhpefmfaaW.PrintWords YtdfmeclhpefmfaaW.PrintLast YtdfmeclhpefmfaaW.PrintMore

def pointsmanlaw13_lives.f : Option Bool := some true
/-- The chapter's entry. -/
def fe (n k : Int) : S30 := ⟨[⟨⟨8, 0, n⟩, ⟨0, 0, 0⟩, k⟩], 0, ⟨#[]⟩, []⟩
theorem prefix_any (w : World) : Calls Try.prog 19 #[] w fun e w' => ∃ A c B d, e = .returned (.agg #[.slice A 1 c, .slice B 1 d, .int .i64 2]) ∧ TabAt w' A c [2] B d [8] ∧ Below w.heap.size w w' := by
  refine (pointsmanlaw13_prefix.calls [2] [8] 2 w rfl).mono ?_
  rintro e w' ⟨v0, v1, rfl, h0, h1, hb⟩
  obtain ⟨A, c, rfl, hc, hr⟩ := Kd.R_reads h0
  obtain ⟨B, d, rfl, hd, hr1⟩ := Kd.R_reads h1
  exact ⟨A, c, B, d, rfl, ⟨hr, hc, hr1, hd⟩, hb⟩
theorem first_any (n k : Int) (w : World) : Calls Try.prog 12 #[.int .u64 n, .int .i64 k] w fun e w' => ∃ A0 c0 A3 c3, e = .returned (.agg #[.slice A0 1 c0, .int .i64 0, .string ⟨#[]⟩, .slice A3 0 c3]) ∧ (Kd.C k42 w' A0 1 (fe n k).f0 ∧ 1 ≤ c0 ∧ Kd.C k40 w' A3 0 (fe n k).f3) ∧ Below w.heap.size w w' := by
  refine (pointsmanlaw13_first.calls n k (fe n k).f0 0 ⟨#[]⟩ [] w rfl).mono ?_
  rintro e w' ⟨v0, v3, rfl, h0, h3, hb⟩
  obtain ⟨A, c, rfl, hc, hr⟩ := Kd.R_reads h0
  obtain ⟨B, d, rfl, hd, hr1⟩ := Kd.R_reads h3
  exact ⟨A, c, B, d, rfl, ⟨hr, hc, hr1⟩, hb⟩
theorem eight_any (n : Int) (w : World) : Calls Try.prog 13 #[.int .u64 n] w fun e w' => e = .returned (.agg #[.int .i64 8, .int .u64 0, .int .u64 n]) ∧ Below w.heap.size w w' := pointsmanlaw13_eight.calls n 8 0 n w rfl
theorem C_key {w : World} {g : Nat} {n : Int} (h : w.heap[g]? = some (.cells #[.int .i64 8, .int .u64 0, .int .u64 n] 40 (0,0))) : Kd.C k40 w (some ⟨g, 0, none⟩) 1 [(⟨8, 0, n⟩ : S40)] :=
  C_of_flat k40 bL (by decide) (fun _ => rfl) z40 (fun x => k40_mk w x) (by simp) (fun _ => ⟨_, rfl, fun j u hu => by rw [Own.add_plain, cellOf h j]; simpa [bL] using hu⟩)
/-- One more of the chapter's entries. -/
theorem ins8 {A : Option Addr} {c : Nat} {B : Option Addr} {d : Nat} {A1 : Option Addr} {c1 : Nat} (l : List S30) {A0 : Option Addr} {c0 : Nat} {A3 : Option Addr} {c3 : Nat} (n k : Int) (r : List S30) (f : Int) (m : Nat) (w : World) (ht : TabAt w A c [2] B d [8])
    (hm : Kd.C k42 w A0 1 (fe n k).f0) (hm1 : 1 ≤ c0) (ha : Kd.C k40 w A3 0 (fe n k).f3) (hl : Kd.C k30 w A1 l.length l) (hl1 : l.length ≤ c1) (hs : small l) (hr : insP [2] [8] 2 l (fe n k) = (r, f)) (hlm : l.length = m) :
    Calls Try.prog 10 #[.agg #[.slice A 1 c, .slice B 1 d, .int .i64 2], .slice A1 m c1, .agg #[.slice A0 1 c0, .int .i64 0, .string ⟨#[]⟩, .slice A3 0 c3]] w fun e w' => ∃ A2 c2, e = .returned (.tuple #[.slice A2 r.length c2, .int .i64 f]) ∧ Kd.C k30 w' A2 r.length r ∧ r.length ≤ c2 ∧ Below w.heap.size w w' := by
  subst hlm
  refine (insert_any 2 l (fe n k) w ht hm hm1 ha (Nat.zero_le _) hl hl1 hs ⟨by simp [fe], by simp [fe]⟩).mono ?_
  rw [hr]
  rintro e w' ⟨v, rfl, ha, hb⟩
  obtain ⟨us, hr2, hE⟩ := ha
  obtain ⟨A2, c2, rfl, h1, h2, _⟩ := hr2.form
  exact ⟨A2, c2, rfl, hE.reads hr2 (by simp only [maxLen] at h2; omega), h1, hb⟩
theorem small_of (l : List S30) (h : l.length ≤ 2) (hx : ∀ x ∈ l, x.f0.length ≤ 1 ∧ x.f3.length ≤ 1) : small l := ⟨by omega, fun x hm => by have := hx x hm; omega⟩
theorem i1 : insP [2] [8] 2 [] (fe 128 1) = ([fe 128 1], 0) := by kernel_rfl
theorem i2 : insP [2] [8] 2 [fe 128 1] (fe 192 2) = ([fe 128 1, fe 192 2], 0) := by kernel_rfl
theorem i3 : insP [2] [8] 2 [fe 128 1, fe 192 2] (fe 0 0) = ([], 10) := by kernel_rfl
theorem i4 : insP [2] [8] 2 [fe 128 1] (fe 128 1) = ([], 12) := by kernel_rfl
theorem j1 : findP [2] [8] 2 [fe 128 1, fe 192 2] [⟨8, 0, 193⟩] = 1 := by kernel_rfl
theorem j2 : findP [2] [8] 2 [fe 128 1, fe 192 2] [⟨8, 0, 144⟩] = 0 := by kernel_rfl
theorem j3 : findP [2] [8] 2 [fe 128 1, fe 192 2] [⟨8, 0, 1⟩] = -1 := by kernel_rfl
theorem find8 {A : Option Addr} {c : Nat} {B : Option Addr} {d : Nat} {A1 : Option Addr} {c1 : Nat} (l : List S30) {K : Option Addr} {kc : Nat} (key : S40) (r : Int) (m : Nat) (w : World) (ht : TabAt w A c [2] B d [8]) (hl : Kd.C k30 w A1 l.length l) (hl1 : l.length ≤ c1) (hk : Kd.C k40 w K 1 [key]) (hk1 : 1 ≤ kc) (hr : findP [2] [8] 2 l [key] = r) (hlm : l.length = m) :
    Calls Try.prog 11 #[.agg #[.slice A 1 c, .slice B 1 d, .int .i64 2], .slice A1 m c1, .slice K 1 kc] w fun e w' => e = .returned (.int .i64 r) ∧ Below w.heap.size w w' := by
  subst hlm
  subst hr
  exact find_ok 2 l [key] w ht hl hl1 hk hk1

theorem sm0 : small [] := small_of [] (by simp) (by simp)
theorem sm1 : small [fe 128 1] := small_of _ (by simp) (by simp [fe])
theorem sm2 : small [fe 128 1, fe 192 2] := small_of _ (by simp) (by simp [fe])
set_option maxHeartbeats 4000000 in
theorem pointsmanlaw13_lives.calls (r : Bool) (w : World) (h : pointsmanlaw13_lives.f = some r) :
    Calls Try.prog 9 #[] w fun e w' => e = .returned (.bool r) ∧ Below w.heap.size w w' := by
  obtain rfl : true = r := by injection h
  clear h
  have HB0 := Aside0.mk (Below.refl w.heap.size w)
  go_enter Try.func9, Try.ntmps9
  go_wp2_with fail
  refine Calls.mono (prefix_any _) ?_
  rintro e w1 ⟨A, c, B, d, rfl, hT, hb⟩
  have HT := Aside0.mk hT
  have HB1 := Aside0.mk (HB0.out.trans (hb.mono HB0.out.size))
  have HP := Aside0.mk hb
  clear hT hb
  go_wp2_with fail
  refine Calls.mono (first_any _ _ _) ?_
  rintro e w2 ⟨A0, c0, A3, c3, rfl, hE, hb⟩
  have HE := Aside0.mk hE
  have HB2 := Aside0.mk (HB1.out.trans (hb.mono HB1.out.size))
  have HT2 := Aside0.mk (HT.out.below hb)
  clear hE hb
  go_wp2_with fail
  refine Calls.mono (ins8 [] 128 1 _ _ 0 w2 HT2.out HE.out.1 HE.out.2.1 HE.out.2.2 ⟨rfl, by simp, fun h => by simp at h⟩ (by simp) sm0 i1 rfl) ?_
  rintro e w3 ⟨P1, C1, rfl, hR, hc, hb⟩
  have HB3 := Aside0.mk (HB2.out.trans (hb.mono HB2.out.size))
  have HL1 := Aside0.mk (And.intro hR hc)
  clear hR hc hb HT HT2 HE HP
  simp only [List.length_cons, List.length_nil, Nat.zero_add, Nat.reduceAdd]
  go_wp2_with fail
  refine Calls.mono (prefix_any _) ?_
  rintro e w4 ⟨A, c, B, d, rfl, hT, hb⟩
  have HT := Aside0.mk hT
  have HB4 := Aside0.mk (HB3.out.trans (hb.mono HB3.out.size))
  have HP := Aside0.mk hb
  clear hT hb
  go_wp2_with fail
  refine Calls.mono (first_any _ _ _) ?_
  rintro e w5 ⟨A0, c0, A3, c3, rfl, hE, hb⟩
  have HE := Aside0.mk hE
  have HB5 := Aside0.mk (HB4.out.trans (hb.mono HB4.out.size))
  have HT2 := Aside0.mk (HT.out.below hb)
  have HL1b := Aside0.mk (Kd.C_below (Kd.C_below HL1.out.1 HP.out) hb)
  clear hE hb
  go_wp2_with fail
  refine Calls.mono (ins8 [fe 128 1] 192 2 _ _ 1 w5 HT2.out HE.out.1 HE.out.2.1 HE.out.2.2 HL1b.out HL1.out.2 sm1 i2 rfl) ?_
  rintro e w6 ⟨P2, C2, rfl, hR, hc, hb⟩
  have HB6 := Aside0.mk (HB5.out.trans (hb.mono HB5.out.size))
  have HL2 := Aside0.mk (And.intro hR hc)
  have HL1c := Aside0.mk (Kd.C_below HL1b.out hb)
  clear hR hc hb HT HT2 HE HP
  simp only [List.length_cons, List.length_nil, Nat.zero_add, Nat.reduceAdd]
  go_wp2_with fail
  refine Calls.mono (prefix_any _) ?_
  rintro e w7 ⟨A, c, B, d, rfl, hT, hb⟩
  have HT := Aside0.mk hT
  have HB7 := Aside0.mk (HB6.out.trans (hb.mono HB6.out.size))
  have HP := Aside0.mk hb
  clear hT hb
  go_wp2_with fail
  refine Calls.mono (first_any _ _ _) ?_
  rintro e w8 ⟨A0, c0, A3, c3, rfl, hE, hb⟩
  have HE := Aside0.mk hE
  have HB8 := Aside0.mk (HB7.out.trans (hb.mono HB7.out.size))
  have HT2 := Aside0.mk (HT.out.below hb)
  have HL2b := Aside0.mk (Kd.C_below (Kd.C_below HL2.out.1 HP.out) hb)
  have HL1d := Aside0.mk (Kd.C_below (Kd.C_below HL1c.out HP.out) hb)
  clear hE hb
  go_wp2_with fail
  refine Calls.mono (ins8 [fe 128 1, fe 192 2] 0 0 _ _ 2 w8 HT2.out HE.out.1 HE.out.2.1 HE.out.2.2 HL2b.out HL2.out.2 sm2 i3 rfl) ?_
  rintro e w9 ⟨P3, C3, rfl, hR, hc, hb⟩
  have HB9 := Aside0.mk (HB8.out.trans (hb.mono HB8.out.size))
  have HL3 := Aside0.mk (And.intro hR hc)
  have HL2c := Aside0.mk (Kd.C_below HL2b.out hb)
  have HL1e := Aside0.mk (Kd.C_below HL1d.out hb)
  clear hR hc hb HT HT2 HE HP
  simp only [List.length_cons, List.length_nil, Nat.zero_add, Nat.reduceAdd]
  go_wp2_with fail
  refine Calls.mono (prefix_any _) ?_
  rintro e w10 ⟨A, c, B, d, rfl, hT, hb⟩
  have HT := Aside0.mk hT
  have HB10 := Aside0.mk (HB9.out.trans (hb.mono HB9.out.size))
  have HP := Aside0.mk hb
  clear hT hb
  go_wp2_with fail
  refine Calls.mono (first_any _ _ _) ?_
  rintro e w11 ⟨A0, c0, A3, c3, rfl, hE, hb⟩
  have HE := Aside0.mk hE
  have HB11 := Aside0.mk (HB10.out.trans (hb.mono HB10.out.size))
  have HT2 := Aside0.mk (HT.out.below hb)
  have HL1f := Aside0.mk (Kd.C_below (Kd.C_below HL1e.out HP.out) hb)
  have HL2d := Aside0.mk (Kd.C_below (Kd.C_below HL2c.out HP.out) hb)
  clear hE hb
  go_wp2_with fail
  refine Calls.mono (ins8 [fe 128 1] 128 1 _ _ 1 w11 HT2.out HE.out.1 HE.out.2.1 HE.out.2.2 HL1f.out HL1.out.2 sm1 i4 rfl) ?_
  rintro e w12 ⟨P4, C4, rfl, hR, hc, hb⟩
  have HB12 := Aside0.mk (HB11.out.trans (hb.mono HB11.out.size))
  have HL4 := Aside0.mk (And.intro hR hc)
  have HL2e := Aside0.mk (Kd.C_below HL2d.out hb)
  clear hR hc hb HT HT2 HE HP
  simp only [List.length_cons, List.length_nil, Nat.zero_add, Nat.reduceAdd]
  go_wp2_with fail
  refine Calls.mono (prefix_any _) ?_
  rintro e w13 ⟨A, c, B, d, rfl, hT, hb⟩
  have HB13 := Aside0.mk (HB12.out.trans (hb.mono HB12.out.size))
  have HT := Aside0.mk hT
  have HLf1 := Aside0.mk (Kd.C_below HL2e.out hb)
  clear hT hb
  go_wp2_with fail
  refine Calls.mono (eight_any _ _) ?_
  rintro e w14 ⟨rfl, hb⟩
  have hbx := hb.trans ((below_alloc (Below.refl w14.heap.size w14) (.cells #[.int .i64 8, .int .u64 0, .int .u64 193] 40 (0,0))).mono hb.size)
  have HB14 := Aside0.mk (HB13.out.trans (hbx.mono HB13.out.size))
  have HLf1b := Aside0.mk (Kd.C_below HLf1.out hbx)
  have HT2 := Aside0.mk (HT.out.below hbx)
  have HK := Aside0.mk (C_key (heap_alloc_new w14 (.cells #[.int .i64 8, .int .u64 0, .int .u64 193] 40 (0,0))))
  clear hb hbx
  go_wp2_with fail
  refine Calls.mono (find8 [fe 128 1, fe 192 2] ⟨8, 0, 193⟩ _ 2 _ HT2.out HLf1b.out HL2.out.2 HK.out (Nat.le_refl _) j1 rfl) ?_
  rintro e w15 ⟨rfl, hb⟩
  have HB15 := Aside0.mk (HB14.out.trans (hb.mono HB14.out.size))
  have HLf2 := Aside0.mk (Kd.C_below HLf1b.out hb)
  clear hb HT HT2 HK
  go_wp2_with fail
  refine Calls.mono (prefix_any _) ?_
  rintro e w16 ⟨A, c, B, d, rfl, hT, hb⟩
  have HB16 := Aside0.mk (HB15.out.trans (hb.mono HB15.out.size))
  have HT := Aside0.mk hT
  have HLf3 := Aside0.mk (Kd.C_below HLf2.out hb)
  clear hT hb
  go_wp2_with fail
  refine Calls.mono (eight_any _ _) ?_
  rintro e w17 ⟨rfl, hb⟩
  have hbx := hb.trans ((below_alloc (Below.refl w17.heap.size w17) (.cells #[.int .i64 8, .int .u64 0, .int .u64 144] 40 (0,0))).mono hb.size)
  have HB17 := Aside0.mk (HB16.out.trans (hbx.mono HB16.out.size))
  have HLf3b := Aside0.mk (Kd.C_below HLf3.out hbx)
  have HT2 := Aside0.mk (HT.out.below hbx)
  have HK := Aside0.mk (C_key (heap_alloc_new w17 (.cells #[.int .i64 8, .int .u64 0, .int .u64 144] 40 (0,0))))
  clear hb hbx
  go_wp2_with fail
  refine Calls.mono (find8 [fe 128 1, fe 192 2] ⟨8, 0, 144⟩ _ 2 _ HT2.out HLf3b.out HL2.out.2 HK.out (Nat.le_refl _) j2 rfl) ?_
  rintro e w18 ⟨rfl, hb⟩
  have HB18 := Aside0.mk (HB17.out.trans (hb.mono HB17.out.size))
  have HLf4 := Aside0.mk (Kd.C_below HLf3b.out hb)
  clear hb HT HT2 HK
  go_wp2_with fail
  refine Calls.mono (prefix_any _) ?_
  rintro e w19 ⟨A, c, B, d, rfl, hT, hb⟩
  have HB19 := Aside0.mk (HB18.out.trans (hb.mono HB18.out.size))
  have HT := Aside0.mk hT
  have HLf5 := Aside0.mk (Kd.C_below HLf4.out hb)
  clear hT hb
  go_wp2_with fail
  refine Calls.mono (eight_any _ _) ?_
  rintro e w20 ⟨rfl, hb⟩
  have hbx := hb.trans ((below_alloc (Below.refl w20.heap.size w20) (.cells #[.int .i64 8, .int .u64 0, .int .u64 1] 40 (0,0))).mono hb.size)
  have HB20 := Aside0.mk (HB19.out.trans (hbx.mono HB19.out.size))
  have HLf5b := Aside0.mk (Kd.C_below HLf5.out hbx)
  have HT2 := Aside0.mk (HT.out.below hbx)
  have HK := Aside0.mk (C_key (heap_alloc_new w20 (.cells #[.int .i64 8, .int .u64 0, .int .u64 1] 40 (0,0))))
  clear hb hbx
  go_wp2_with fail
  refine Calls.mono (find8 [fe 128 1, fe 192 2] ⟨8, 0, 1⟩ _ 2 _ HT2.out HLf5b.out HL2.out.2 HK.out (Nat.le_refl _) j3 rfl) ?_
  rintro e w21 ⟨rfl, hb⟩
  have HB21 := Aside0.mk (HB20.out.trans (hb.mono HB20.out.size))
  have HLf6 := Aside0.mk (Kd.C_below HLf5b.out hb)
  clear hb HT HT2 HK
  go_wp2
  go_ret
  exact ⟨rfl, HB21.out⟩
end Go.Proofs.Ytdfmeclhpefmfaa.K

/- beyond, told plainly; entries that are the same. -/
set_option linter.unusedVariables false
set_option linter.unusedSimpArgs false
set_option maxRecDepth 100000
namespace Go.Proofs.Ytdfmeclhpefmfaa.Own
open Go.RowKit Go.Proofs.Ytdfmeclhpefmfaa.K YtdfmeclhpefmfaaW.PrintWords YtdfmeclhpefmfaaW.PrintLast YtdfmeclhpefmfaaW.PrintMore

def B47 : Nat := 140737488351232
/-- An entry that memory holds. -/
def bigOk (x : S30) : Prop := x.f0.length ≤ B47 ∧ x.f2.size ≤ B47 ∧ x.f3.length ≤ B47
/-- One whose parts are few. -/
def tiny (x : S30) : Prop := x.f0.length ≤ 30000 ∧ x.f2.size ≤ 30000 ∧ x.f3.length ≤ 30000
theorem wrap_of (x : Int) (h0 : 0 ≤ x) (h1 : x ≤ 2251799813685248) : wrap64 x = x := by
  unfold wrap64
  omega
theorem entry_f (x : S30) (h : bigOk x) : ∃ r : Int, pointsmanlaw01_EntrySize.f x.f0 x.f1 x.f2 x.f3 = some r ∧ 1 ≤ r ∧ r ≤ 562949953421312 ∧ (r ≤ 30000 → tiny x) := by
  obtain ⟨h1, h2, h3⟩ := h
  unfold B47 at h1 h2 h3
  unfold pointsmanlaw01_EntrySize.f pointsmanlaw01_MatchesSize.f pointsmanlaw01_NumbersSize.f tiny
  rw [wrap_of (1 + (x.f2.size : Int)) (by omega) (by omega)]
  by_cases a : 1 + (x.f2.size : Int) ≤ 1048576
  · rw [if_pos a, Option.bind_some, wrap_of (1 + (x.f2.size : Int) + (x.f0.length : Int)) (by omega) (by omega)]
    by_cases b : 1 + (x.f2.size : Int) + (x.f0.length : Int) ≤ 1048576
    · rw [if_pos b, Option.bind_some, wrap_of (1 + (x.f2.size : Int) + (x.f0.length : Int) + (x.f3.length : Int)) (by omega) (by omega)]
      exact ⟨_, rfl, by omega, by omega, fun h => by omega⟩
    · rw [if_neg b]
      exact ⟨_, rfl, by omega, by omega, fun h => by omega⟩
  · rw [if_neg a]
    exact ⟨_, rfl, by omega, by omega, fun h => by omega⟩
theorem rdE_nat (l : List S30) (j : Nat) : rd_T30 l (j : Int) = l.getD j z30 := rfl
theorem entries_f (l : List S30) (hb : ∀ x ∈ l, bigOk x) (hl : l.length ≤ B47) : ∀ (m j fuel : Nat) (n : Int), m = l.length - j → j ≤ l.length → m < fuel → 0 ≤ n → n ≤ 562949954469888 →
    ∃ r : Int, pointsmanlaw01_EntriesSize.l0 fuel l n (j : Int) = some r ∧ n ≤ r ∧ r ≤ 562949954469888 ∧ (r ≤ 30000 → ∀ i, j ≤ i → i < l.length → tiny (l.getD i z30))
  | m, j, 0, n, _, _, h, _, _ => by omega
  | 0, j, fuel + 1, n, hm, hj, _, h0, h1 => by
    simp only [pointsmanlaw01_EntriesSize.l0]
    rw [if_neg (by omega)]
    exact ⟨n, rfl, Int.le_refl _, h1, fun _ i hi hi2 => by omega⟩
  | m + 1, j, fuel + 1, n, hm, hj, hf, h0, h1 => by
    unfold B47 at hl
    simp only [pointsmanlaw01_EntriesSize.l0]
    rw [if_pos (by omega)]
    by_cases a : n ≤ 1048576
    · have hmem : l.getD j z30 ∈ l := by
        rw [List.getD_eq_getElem?_getD, List.getElem?_eq_getElem (by omega)]
        exact List.getElem_mem _
      obtain ⟨e, he, he1, he2, he3⟩ := entry_f (l.getD j z30) (hb _ hmem)
      rw [if_pos a, if_pos (by omega), rdE_nat, he, Option.bind_some, wrap_of (n + e) (by omega) (by omega), w_add1 j (by omega)]
      obtain ⟨r, h2, h3, h4, h5⟩ := entries_f l hb hl m (j + 1) fuel (n + e) (by omega) (by omega) (by omega) (by omega) (by omega)
      refine ⟨r, h2, by omega, h4, fun hr i hi hi2 => ?_⟩
      by_cases hij : i = j
      · subst hij
        exact he3 (by omega)
      · exact h5 hr i (by omega) hi2
    · rw [if_neg a]
      exact ⟨n, rfl, Int.le_refl _, h1, fun hr => by omega⟩
/-- Few enough to be gone through. -/
structure Few (ks ws : List Int) (l : List S30) (e : S30) : Prop where
  hk : ks.length ≤ 30000
  hw : ws.length ≤ 30000
  hl : l.length ≤ 30000
  hx : ∀ x ∈ l, tiny x
  he : tiny e
theorem beyond_f (ks ws : List Int) (sz : Int) (l : List S30) (e : S30) (hl : l.length ≤ B47) (hb : ∀ x ∈ l, bigOk x) (he : bigOk e) (hk : ks.length ≤ B47) (hw : ws.length ≤ B47) (k : Nat) (hf : l.length < k) :
    ∃ b, pointsmanlaw13_beyond.f k ks ws sz l e.f0 e.f1 e.f2 e.f3 = some b ∧ (b = false → Few ks ws l e) := by
  have hl' := hl
  unfold B47 at hl hk hw
  obtain ⟨r, h1, h2, h3, h4⟩ := entries_f l hb hl' l.length 0 k (l.length : Int) (by omega) (by omega) (by omega) (by omega) (by omega)
  obtain ⟨q, g1, g2, g3, g4⟩ := entry_f e he
  unfold pointsmanlaw13_beyond.f pointsmanlaw01_EntriesSize.f
  rw [show ((0 : Nat) : Int) = 0 from rfl] at h1
  rw [h1, Option.bind_some, g1, Option.bind_some, wrap_of (r + q) (by omega) (by omega), wrap_of (r + q + (ks.length : Int)) (by omega) (by omega), wrap_of (r + q + (ks.length : Int) + (ws.length : Int)) (by omega) (by omega)]
  refine ⟨_, rfl, fun hb0 => ?_⟩
  have hle : ¬ (r + q + (ks.length : Int) + (ws.length : Int) > 30000) := of_decide_eq_false hb0
  refine ⟨by omega, by omega, by omega, fun x hx => ?_, g4 (by omega)⟩
  obtain ⟨i, hi, rfl⟩ := List.mem_iff_getElem.1 hx
  have := h4 (by omega) i (Nat.zero_le _) hi
  rwa [List.getD_eq_getElem?_getD, List.getElem?_eq_getElem hi] at this
/-! ### the same entries -/
theorem sameM_refl (l : List S42) (hl : l.length ≤ B47) : ∀ (m j fuel : Nat), m = l.length - j → j ≤ l.length → m < fuel → pointsmanlaw01_SameMatches.l0 fuel l l (j : Int) = some true
  | m, j, 0, _, _, h => by omega
  | 0, j, fuel + 1, hm, hj, _ => by
    simp only [pointsmanlaw01_SameMatches.l0]
    rw [if_neg (by omega)]
  | m + 1, j, fuel + 1, hm, hj, hf => by
    have hl' := hl
    unfold B47 at hl
    simp only [pointsmanlaw01_SameMatches.l0]
    rw [if_pos (by omega), if_pos (by omega), if_pos (by omega), w_add1 j (by omega), sameM_refl l hl' m (j + 1) fuel (by omega) (by omega) (by omega)]
    simp
theorem sameB_refl (l : List S40) (hl : l.length ≤ B47) : ∀ (m j fuel : Nat), m = l.length - j → j ≤ l.length → m < fuel → pointsmanlaw01_SameNumbers.l0 fuel l l (j : Int) = some true
  | m, j, 0, _, _, h => by omega
  | 0, j, fuel + 1, hm, hj, _ => by
    simp only [pointsmanlaw01_SameNumbers.l0]
    rw [if_neg (by omega)]
  | m + 1, j, fuel + 1, hm, hj, hf => by
    have hl' := hl
    unfold B47 at hl
    simp only [pointsmanlaw01_SameNumbers.l0]
    rw [if_pos (by omega), if_pos (by omega), if_pos (by omega), w_add1 j (by omega), sameB_refl l hl' m (j + 1) fuel (by omega) (by omega) (by omega)]
    simp
theorem sameE_refl (x : S30) (h : tiny x) (k : Nat) (hk : 30000 < k) : pointsmanlaw01_SameEntry.f k x.f0 x.f1 x.f2 x.f3 x.f0 x.f1 x.f2 x.f3 = some true := by
  obtain ⟨h1, h2, h3⟩ := h
  unfold pointsmanlaw01_SameEntry.f pointsmanlaw01_SameMatches.f pointsmanlaw01_SameNumbers.f
  have e1 := sameM_refl x.f0 (by unfold B47; omega) x.f0.length 0 k (by omega) (by omega) (by omega)
  have e2 := sameB_refl x.f3 (by unfold B47; omega) x.f3.length 0 k (by omega) (by omega) (by omega)
  rw [show ((0 : Nat) : Int) = 0 from rfl] at e1 e2
  rw [if_pos rfl, e1, if_pos rfl, e2]
  simp
theorem sameEs_refl (l : List S30) (hx : ∀ x ∈ l, tiny x) (hl : l.length ≤ B47) : ∀ (m j fuel : Nat), m = l.length - j → j ≤ l.length → m + 30001 < fuel → pointsmanlaw01_SameEntries.l0 fuel l l (j : Int) = some true
  | m, j, 0, _, _, h => by omega
  | 0, j, fuel + 1, hm, hj, _ => by
    simp only [pointsmanlaw01_SameEntries.l0]
    rw [if_neg (by omega)]
  | m + 1, j, fuel + 1, hm, hj, hf => by
    have hl' := hl
    unfold B47 at hl
    have hmem : l.getD j z30 ∈ l := by
      rw [List.getD_eq_getElem?_getD, List.getElem?_eq_getElem (by omega)]
      exact List.getElem_mem _
    simp only [pointsmanlaw01_SameEntries.l0]
    rw [if_pos (by omega), if_pos (by omega), if_pos (by omega), rdE_nat, sameE_refl _ (hx _ hmem) fuel (by omega), Option.bind_some, if_pos rfl, w_add1 j (by omega), sameEs_refl l hx hl' m (j + 1) fuel (by omega) (by omega) (by omega)]
theorem same_refl (l : List S30) (hx : ∀ x ∈ l, tiny x) (hl : l.length ≤ 30001) (k : Nat) (hk : l.length + 30001 < k) : pointsmanlaw01_SameEntries.f k l l = some true := by
  unfold pointsmanlaw01_SameEntries.f
  rw [if_pos rfl]
  exact sameEs_refl l hx (by unfold B47; omega) l.length 0 k (by omega) (by omega) (by omega)
end Go.Proofs.Ytdfmeclhpefmfaa.Own

/- What an insertion leaves. -/
set_option linter.unusedVariables false
set_option linter.unusedSimpArgs false
set_option maxRecDepth 100000
namespace Go.Proofs.Ytdfmeclhpefmfaa.Own
open Go.RowKit Go.Proofs.Ytdfmeclhpefmfaa.K YtdfmeclhpefmfaaW.PrintWords YtdfmeclhpefmfaaW.PrintLast YtdfmeclhpefmfaaW.PrintMore

theorem okSize_of (l : List S30) (e : S30) (hl : l.length ≤ 30001) (hx : ∀ x ∈ l, tiny x) (he : tiny e) : okSize l e.f0 e.f3 = true := by
  simp only [okSize, Bool.and_eq_true, decide_eq_true_eq, List.all_eq_true]
  refine ⟨by omega, fun x hm => ?_, ?_, ?_⟩
  · have := hx x hm
    unfold tiny at this
    omega
  · unfold tiny at he
    omega
  · unfold tiny at he
    omega
theorem oneB_self (e : S30) : oneB e e = true := by
  unfold oneB
  rw [(sameM_iff e.f0 e.f0).2 rfl]
  simp
/-- Behind an insertion. -/
theorem ins_ok {ks ws : List Int} {sz : Int} {l : List S30} {e : S30} {r : List S30} {f : Int} (h : insP ks ws sz l e = (r, f)) : (f = 0 ∧ r = l ++ [e] ∧ checkP ks ws sz e = 0 ∧ l.any (oneB e) = false ∧ (l.length : Int) < sz) ∨ (f ≠ 0 ∧ r = []) := by
  unfold insP at h
  by_cases h1 : checkP ks ws sz e = 0
  · rw [if_pos h1] at h
    by_cases h2 : placeE l e ≥ 0
    · rw [if_pos h2] at h
      injection h with h3 h4
      exact .inr ⟨by omega, h3.symm⟩
    · rw [if_neg h2] at h
      by_cases h3 : (l.length : Int) ≥ sz
      · rw [if_pos h3] at h
        injection h with h3 h4
        exact .inr ⟨by omega, h3.symm⟩
      · rw [if_neg h3] at h
        injection h with h4 h5
        refine .inl ⟨h5.symm, h4.symm, h1, ?_, by omega⟩
        rcases fIdx_spec (oneB e) z30 l with ⟨_, h6⟩ | ⟨k, h6, _⟩
        · exact h6
        · exact absurd (show placeE l e ≥ 0 by unfold placeE; rw [h6]; omega) h2
  · rw [if_neg h1] at h
    injection h with h3 h4
    exact .inr ⟨by rw [← h4]; exact h1, h3.symm⟩
theorem place_new {l : List S30} {e : S30} (h : l.any (oneB e) = false) : placeE (l ++ [e]) e = (l.length : Int) :=
  fIdx_at (oneB e) z30 (l ++ [e]) l.length (by rw [List.take_left]; exact h) (by simp) (by simp [List.getD_eq_getElem?_getD, oneB_self])
theorem place_no {l : List S30} {e : S30} (h : l.any (oneB e) = false) : placeE l e = -1 := fIdx_none _ l h
end Go.Proofs.Ytdfmeclhpefmfaa.Own

/- MatchOwn, plainly: an entry is found by its own values. -/
set_option linter.unusedVariables false
set_option linter.unusedSimpArgs false
set_option maxRecDepth 100000
namespace Go.Proofs.Ytdfmeclhpefmfaa.Own
open Go.RowKit Go.Proofs.Ytdfmeclhpefmfaa.K YtdfmeclhpefmfaaW.PrintWords YtdfmeclhpefmfaaW.PrintLast YtdfmeclhpefmfaaW.PrintMore

theorem mostB_self (b : S40) : mostB b b = true := by
  unfold mostB
  simp
theorem underB_self (b : S40) (h l : Int) : underB b h l b = true := by
  unfold underB
  simp
theorem hits_self (kd wd : Int) (m : S42) (h1 : m.f0.f0 = wd) (h : mayB kd wd m = true) : hitsB kd m m.f0 = true := by
  unfold mayB at h
  unfold hitsB
  by_cases a : kd = 1
  · rw [if_pos a]
    unfold eqB
    simp
  · rw [if_neg a] at h ⊢
    by_cases b : kd = 2
    · rw [if_pos b]
      exact underB_self _ _ _
    · rw [if_neg b] at h ⊢
      by_cases c : kd = 3
      · rw [if_pos c] at h ⊢
        simp only [maskedB, Bool.and_eq_true, beq_iff_eq] at h
        rw [underB_self, h.1.2.2, h1]
        simp
      · rw [if_neg c] at h ⊢
        simp only [maskedB, Bool.and_eq_true, beq_iff_eq] at h
        rw [mostB_self, h.1.2.2, h1, h.2]
        simp
/-- Its own values. -/
def ownKeys (e : S30) : List S40 := e.f0.map (·.f0)
theorem ownKeys_get (e : S30) (j : Nat) : (ownKeys e).getD j z40 = (e.f0.getD j z42).f0 := by
  unfold ownKeys
  rw [List.getD_eq_getElem?_getD, List.getElem?_map, List.getD_eq_getElem?_getD]
  cases e.f0[j]? <;> rfl
structure Checked1 (ks ws : List Int) (sz : Int) (e : S30) : Prop where
  may : tmayB ks ws sz = true
  len : e.f0.length = ks.length
  lw : ks.length = ws.length
  key : ∀ j, j < e.f0.length → okB (e.f0.getD j z42).f0 = true ∧ (e.f0.getD j z42).f0.f0 = ws.getD j 0 ∧ mayB (ks.getD j 0) (ws.getD j 0) (e.f0.getD j z42) = true
theorem checked_of {ks ws : List Int} {sz : Int} {e : S30} (h : checkP ks ws sz e = 0) : Checked1 ks ws sz e := by
  unfold checkP at h
  have hb : checkB ks ws sz e = true := by
    cases hc : checkB ks ws sz e with
    | true => rfl
    | false => rw [hc] at h; simp at h
  unfold checkB at hb
  simp only [Bool.and_eq_true, beq_iff_eq] at hb
  obtain ⟨h1, h2, h3, _⟩ := hb
  have h1' := h1
  simp only [tmayB, Bool.and_eq_true, Bool.not_eq_true', decide_eq_true_eq, beq_iff_eq] at h1'
  refine ⟨h1, h2, h1'.2.1, fun j hj => ?_⟩
  have := (keysB_iff ks ws e.f0).1 h3 j hj
  simp only [keyB, Bool.and_eq_true, beq_iff_eq] at this
  exact ⟨this.1, this.2.1, this.2.2⟩
theorem Checked1.fits {ks ws : List Int} {sz : Int} {e : S30} (h : Checked1 ks ws sz e) : fitsB (ownKeys e) ws = true := by
  rw [fitsB_iff]
  refine ⟨by unfold ownKeys; rw [List.length_map, h.len, h.lw], fun j hj => ?_⟩
  have hj' : j < e.f0.length := by unfold ownKeys at hj; simpa using hj
  obtain ⟨h1, h2, _⟩ := h.key j hj'
  rw [ownKeys_get]
  unfold fit1
  rw [h1, h2]
  simp
theorem Checked1.hits {ks ws : List Int} {sz : Int} {e : S30} (h : Checked1 ks ws sz e) : hitsE ks (ownKeys e) e = true := by
  unfold hitsE
  rw [Bool.and_eq_true, List.all_eq_true]
  refine ⟨by unfold ownKeys; simp, fun j hj => ?_⟩
  rw [List.mem_range] at hj
  have hj' : j < e.f0.length := by unfold ownKeys at hj; simpa using hj
  obtain ⟨h1, h2, h3⟩ := h.key j hj'
  rw [ownKeys_get, hits_self _ _ _ h2 h3]
  simp
/-- The best is one of them. -/
theorem best_in (ks : List Int) (l : List S30) : ∀ (is_ : List Nat) (s : Int × Int), (is_.foldl (stepB ks l) s).1 = s.1 ∨ ∃ i ∈ is_, (is_.foldl (stepB ks l) s).1 = (i : Int)
  | [], s => .inl rfl
  | i :: rest, s => by
    rw [List.foldl_cons]
    rcases best_in ks l rest (stepB ks l s i) with h | ⟨q, hq, h⟩
    · rw [h]
      unfold stepB
      split
      · exact .inr ⟨i, by simp, rfl⟩
      · exact .inl rfl
    · exact .inr ⟨q, by simp [hq], h⟩
theorem best_some (ks : List Int) (l : List S30) (i : Nat) (rest : List Nat) : ∃ q ∈ i :: rest, (bestB ks l (i :: rest)).1 = (q : Int) := by
  unfold bestB
  rw [List.foldl_cons]
  have hs : stepB ks l (-1, 0) i = ((i : Int), wtE ks (l.getD i z30)) := by
    unfold stepB
    rw [if_pos (.inl (by decide))]
  rcases best_in ks l rest (stepB ks l (-1, 0) i) with h | ⟨q, hq, h⟩
  · exact ⟨i, by simp, by rw [h, hs]⟩
  · exact ⟨q, by simp [hq], h⟩
theorem best_range (ks : List Int) (keys : List S40) (l : List S30) (i : Nat) (hi : i < l.length) (h : hitsE ks keys (l.getD i z30) = true) : 0 ≤ (bestB ks l (hitsTo ks keys l l.length)).1 ∧ (bestB ks l (hitsTo ks keys l l.length)).1 < (l.length : Int) := by
  have hm : i ∈ hitsTo ks keys l l.length := by
    unfold hitsTo
    rw [List.mem_filter, List.mem_range]
    exact ⟨hi, h⟩
  cases hh : hitsTo ks keys l l.length with
  | nil => rw [hh] at hm; cases hm
  | cons a rest =>
    obtain ⟨q, hq, he⟩ := best_some ks l a rest
    rw [← hh] at hq
    have := hitsTo_mem ks keys l l.length q hq
    rw [he]
    omega
theorem own_find {ks ws : List Int} {sz : Int} {l : List S30} {e : S30} (h : checkP ks ws sz e = 0) : 0 ≤ findP ks ws sz (l ++ [e]) (ownKeys e) ∧ findP ks ws sz (l ++ [e]) (ownKeys e) < ((l ++ [e]).length : Int) := by
  have hc := checked_of h
  unfold findP
  rw [hc.may, hc.fits, Bool.true_and, if_pos rfl]
  refine best_range ks _ (l ++ [e]) l.length (by simp) ?_
  have hg : (l ++ [e]).getD l.length z30 = e := by simp [List.getD_eq_getElem?_getD]
  rw [hg]
  exact hc.hits
theorem own_one {ks ws : List Int} {sz : Int} {e : S30} (h : checkP ks ws sz e = 0) : findP ks ws sz [e] (ownKeys e) = 0 := by
  have hc := checked_of h
  unfold findP
  rw [hc.may, hc.fits, Bool.true_and, if_pos rfl]
  have h1 : hitsTo ks (ownKeys e) [e] [e].length = [0] := by
    have : hitsE ks (ownKeys e) (([e] : List S30).getD 0 z30) = true := hc.hits
    show hitsTo ks (ownKeys e) [e] (0 + 1) = _
    rw [hitsTo_yes _ _ _ _ this]
    rfl
  rw [h1]
  rfl
end Go.Proofs.Ytdfmeclhpefmfaa.Own

/- MatchOwn: the walk. -/
set_option linter.unusedVariables false
set_option linter.unusedSimpArgs false
set_option maxRecDepth 100000
namespace Go.Proofs.Ytdfmeclhpefmfaa.Own
open Go.RowKit Go.Proofs.Ytdfmeclhpefmfaa.K YtdfmeclhpefmfaaW.PrintWords YtdfmeclhpefmfaaW.PrintLast YtdfmeclhpefmfaaW.PrintMore

theorem lives_any (w : World) : Calls Try.prog 9 #[] w fun e w' => e = .returned (.bool true) ∧ Below w.heap.size w w' := pointsmanlaw13_lives.calls true w rfl
/-- The case, in memory, and all that it leads to. -/
structure CaseAt (w0 : World) (g : Nat) (A : Option Addr) (c : Nat) (ks : List Int) (B : Option Addr) (d : Nat) (ws : List Int) (sz : Int) (A1 : Option Addr) (c1 : Nat) (l : List S30) (A0 A3 : Option Addr) (c0 c3 : Nat) (e : S30) (W : World) : Prop where
  box : W.heap[g]? = some (.cells #[.slice A ks.length c, .slice B ws.length d, .int .i64 sz, .slice A1 l.length c1, .slice A0 e.f0.length c0, .int .i64 e.f1, .string e.f2, .slice A3 e.f3.length c3] 32 (0,0))
  tab : TabAt W A c ks B d ws
  hl : Kd.C k30 W A1 l.length l
  hm : Kd.C k42 W A0 e.f0.length e.f0
  ha : Kd.C k40 W A3 e.f3.length e.f3
  below : Below w0.heap.size w0 W
theorem CaseAt.next {w0 : World} {g : Nat} {A : Option Addr} {c : Nat} {ks : List Int} {B : Option Addr} {d : Nat} {ws : List Int} {sz : Int} {A1 : Option Addr} {c1 : Nat} {l : List S30} {A0 A3 : Option Addr} {c0 c3 : Nat} {e : S30} {W W' : World}
    (h : CaseAt w0 g A c ks B d ws sz A1 c1 l A0 A3 c0 c3 e W) (hb : Below W.heap.size W W') : CaseAt w0 g A c ks B d ws sz A1 c1 l A0 A3 c0 c3 e W' :=
  ⟨(hb.block g (Array.getElem?_eq_some_iff.1 h.box).1).trans h.box, h.tab.below hb, Kd.C_below h.hl hb, Kd.C_below h.hm hb, Kd.C_below h.ha hb, h.below.trans (hb.mono h.below.size)⟩
/-- The reading of what Insert answered. -/
theorem Ans.reads {w w' : World} {v : Value} {l : List S30} (h : Ans w w' v l) : ∃ A c, v = .slice A l.length c ∧ l.length ≤ c ∧ Kd.C k30 w' A l.length l := by
  obtain ⟨us, hr, hE⟩ := h
  obtain ⟨A, c, rfl, h1, h2, _⟩ := hr.form
  exact ⟨A, c, rfl, h1, hE.reads hr (by simp only [maxLen] at h2; omega)⟩
theorem few_small {ks ws : List Int} {l : List S30} {e : S30} (h : Few ks ws l e) : small l ∧ e.f0.length ≤ 1000000 ∧ e.f3.length ≤ 1000000 := by
  refine ⟨⟨by have := h.hl; omega, fun x hx => ?_⟩, ?_, ?_⟩
  · have := h.hx x hx
    unfold tiny at this
    omega
  · have := h.he
    unfold tiny at this
    omega
  · have := h.he
    unfold tiny at this
    omega
/-- One entry, as a literal. -/
theorem C_one {w : World} {g : Nat} {x : S30} {A0 A3 : Option Addr} {c0 c3 : Nat} (h : w.heap[g]? = some (.cells #[.slice A0 x.f0.length c0, .int .i64 x.f1, .string x.f2, .slice A3 x.f3.length c3] 30 (0,0)))
    (l0 : x.f0.length ≤ c0) (g0 : Kd.C k42 w A0 x.f0.length x.f0) (l3 : x.f3.length ≤ c3) (g3 : Kd.C k40 w A3 x.f3.length x.f3) : Kd.C k30 w (some ⟨g, 0, none⟩) 1 [x] := by
  refine ⟨rfl, by decide, fun _ => ⟨_, rfl, fun j p hj => ?_⟩⟩
  match j, hj with
  | 0, hj =>
    injection hj with hj
    subst hj
    refine ⟨_, rfl, k30_mk w x l0 g0 l3 g3, fun i u hu => ?_⟩
    rw [Own.add_plain, cellOf h]
    rw [Nat.zero_mul, Nat.zero_add]
    simpa using hu
  | j + 1, hj => simp at hj
set_option maxHeartbeats 3200000 in
theorem own_any (A : Option Addr) (c : Nat) (ks : List Int) (B : Option Addr) (d : Nat) (ws : List Int) (sz : Int) (A1 : Option Addr) (c1 : Nat) (l : List S30) (A0 A3 : Option Addr) (c0 c3 : Nat) (e : S30) (w : World) (ht : TabAt w A c ks B d ws)
    (hl : Kd.C k30 w A1 l.length l) (hl1 : l.length ≤ c1) (hm : Kd.C k42 w A0 e.f0.length e.f0) (hm1 : e.f0.length ≤ c0) (ha : Kd.C k40 w A3 e.f3.length e.f3) (ha1 : e.f3.length ≤ c3) (hl47 : l.length ≤ B47) (hb : ∀ x ∈ l, bigOk x) (he : bigOk e) (hk47 : ks.length ≤ B47) (hw47 : ws.length ≤ B47) :
    Calls Try.prog 3 #[.agg #[.slice A ks.length c, .slice B ws.length d, .int .i64 sz, .slice A1 l.length c1, .slice A0 e.f0.length c0, .int .i64 e.f1, .string e.f2, .slice A3 e.f3.length c3]] w fun r w' => r = .returned (.bool true) ∧ Below w.heap.size w w' := by
  have hu25 := Try.underlying25
  have hu30 := Try.underlying30
  have hu32 := Try.underlying32
  have hu40 := Try.underlying40
  have hu42 := Try.underlying42
  obtain ⟨b, hbe, hfew⟩ := beyond_f ks ws sz l e hl47 hb he hk47 hw47 (l.length + 1) (by omega)
  have hb1 := below_alloc (Below.refl w.heap.size w) (.cells #[.slice A ks.length c, .slice B ws.length d, .int .i64 sz, .slice A1 l.length c1, .slice A0 e.f0.length c0, .int .i64 e.f1, .string e.f2, .slice A3 e.f3.length c3] 32 (0,0))
  have H1 := Aside0.mk (show CaseAt w w.heap.size A c ks B d ws sz A1 c1 l A0 A3 c0 c3 e _ from ⟨heap_alloc_new w _, ht.below hb1, Kd.C_below hl hb1, Kd.C_below hm hb1, Kd.C_below ha hb1, hb1⟩)
  have HBY := Aside0.mk (fun W (h : CaseAt w w.heap.size A c ks B d ws sz A1 c1 l A0 A3 c0 c3 e W) => pointsmanlaw13_beyond.calls (l.length + 1) A c ks B d ws sz A1 c1 l A0 c0 e.f0 e.f1 e.f2 A3 c3 e.f3 b W h.tab.hk h.tab.hc h.tab.hw h.tab.hd h.hl hl1 h.hm hm1 h.ha ha1 hbe)
  have HSM := Aside0.mk (show b = false → small l ∧ e.f0.length ≤ 1000000 ∧ e.f3.length ≤ 1000000 from fun h => few_small (hfew h))
  have HFW := Aside0.mk hfew
  have HIN := Aside0.mk (fun W (h : CaseAt w w.heap.size A c ks B d ws sz A1 c1 l A0 A3 c0 c3 e W) (hs : small l ∧ e.f0.length ≤ 1000000 ∧ e.f3.length ≤ 1000000) => insert_any sz l (c0 := c0) (c3 := c3) e W h.tab h.hm hm1 h.ha ha1 h.hl hl1 hs.1 hs.2)
  have HFD := Aside0.mk (fun W (h : CaseAt w w.heap.size A c ks B d ws sz A1 c1 l A0 A3 c0 c3 e W) (L : List S30) (AL : Option Addr) (cL : Nat) (hL : Kd.C k30 W AL L.length L) (hL1 : L.length ≤ cL) (K : Option Addr) (kc : Nat) (keys : List S40) (hK : Kd.C k40 W K keys.length keys) (hK1 : keys.length ≤ kc) => find_ok sz L (c1 := cL) keys (kc := kc) W h.tab hL hL1 hK hK1)
  have HE1 := Aside0.mk (And.intro hm1 ha1)
  clear ht hl hl1 hm hm1 ha ha1 hl47 hb he hk47 hw47 hb1 hbe hfew
  obtain ⟨em, ep, es, ea⟩ := e
  simp only at *
  cases b with
  | true =>
    go_enter Try.func3, Try.ntmps3
    go_wp2_with fail
    refine Calls.mono (HBY.out _ H1.out) ?_
    rintro r w2 ⟨rfl, hb⟩
    have H2 := Aside0.mk (H1.out.next hb)
    clear hb
    go_wp2_with fail
    refine Calls.mono (lives_any _) ?_
    rintro r w3 ⟨rfl, hb⟩
    have H3 := Aside0.mk (H2.out.next hb)
    clear hb
    go_wp2
    go_ret
    exact ⟨rfl, H3.out.below⟩
  | false =>
    obtain ⟨⟨R, f⟩, hins⟩ : ∃ p, p = insP ks ws sz l ⟨em, ep, es, ea⟩ := ⟨_, rfl⟩
    have HI2 := HIN
    rw [← hins] at HI2
    have HR := Aside0.mk (ins_ok hins.symm)
    clear hins HIN
    go_enter Try.func3, Try.ntmps3
    go_wp2_with fail
    refine Calls.mono (HBY.out _ H1.out) ?_
    rintro r w2 ⟨rfl, hb⟩
    have H2 := Aside0.mk (H1.out.next hb)
    clear hb
    have d0 := cellOf H2.out.box 0
    have d1 := cellOf H2.out.box 1
    have d2 := cellOf H2.out.box 2
    have d3 := cellOf H2.out.box 3
    have d4 := cellOf H2.out.box 4
    have d5 := cellOf H2.out.box 5
    have d6 := cellOf H2.out.box 6
    have d7 := cellOf H2.out.box 7
    go_wp2_with fail
    refine Calls.mono (HI2.out _ H2.out (HSM.out (by simp))) ?_
    rintro r w3 ⟨v, rfl, hA, hb⟩
    have H3 := Aside0.mk (H2.out.next hb)
    clear hb d0 d1 d2 d3 d4 d5 d6 d7 HI2
    obtain ⟨AR, cR, rfl, hcR, hCR⟩ := hA.reads
    have HA := Aside0.mk (And.intro hcR hCR)
    clear hA hcR hCR
    rcases HR.out with ⟨rfl, rfl, hck, hno, hlt⟩ | ⟨hf, rfl⟩
    · have HCK := Aside0.mk hck
      clear hck hno hlt HR
      have HM3 := Aside0.mk H3.out.hm
      have hem : em.length ≤ 1000000 := (HSM.out (by simp)).2.1
      obtain ⟨kk, hkk⟩ : ∃ kk : List S40, kk = ownKeys ⟨em, ep, es, ea⟩ := ⟨_, rfl⟩
      have hkl : kk.length = em.length := by rw [hkk]; unfold ownKeys; simp
      have HKK := Aside0.mk (And.intro hkk hkl)
      have HGET := Aside0.mk (show ∀ j, kk.getD j z40 = (em.getD j z42).f0 from fun j => by rw [hkk]; exact ownKeys_get _ j)
      have HF1 := Aside0.mk (own_find (l := l) HCK.out)
      have HF2 := Aside0.mk (own_one HCK.out)
      rw [← hkk] at HF1 HF2
      clear hkk hkl
      go_wp2_with fail
      go_loopw [5, 6] (fun v i wr => ∃ k : Nat, k ≤ em.length ∧ i = .int .i64 k ∧ Aside0 (wr.ownsRow w3.heap.size 40 3 v k ((kk.take k).flatMap bL) ∧ Below w3.heap.size w3 wr)) (fun _ i _ => em.length - (intOf i).toNat)
      case atStart => exact ⟨0, by omega, rfl, World.ownsRow_nil _ _ _ _, Below.refl _ _⟩
      case round =>
        obtain ⟨k, hk, rfl, HI⟩ := hrel
        have HC := Aside0.mk (H3.out.next HI.out.2)
        have d4 := cellOf HC.out.box 4
        by_cases hlt : k < em.length
        · have g3 : decide ((k : Int) < (em.length : Int)) = true := decide_eq_true (by omega)
          have p0 : 0 ≤ (k : Int) := by omega
          have q0 : (k : Int) < (em.length : Int) := by omega
          obtain ⟨ad, rfl, x0, x1, x2, x3, x4, x5, x6⟩ := at_T42 HC.out.hm (k : Int) p0 q0
          rw [Int.toNat_natCast] at x0 x1 x2
          simp only [rd_T42, Int.toNat_natCast] at x0 x1 x2
          clear x3 x4 x5 x6
          have HTK := Aside0.mk (show kk.take (k + 1) = kk.take k ++ [kk.getD k z40] from by
            have := HKK.out.2
            rw [List.take_add_one, List.getElem?_eq_getElem (by omega), List.getD_eq_getElem?_getD, List.getElem?_eq_getElem (by omega)]
            rfl)
          rw [HGET.out k] at HTK
          generalize (em.getD k z42).f0 = key at *
          obtain ⟨y0, y1, y2⟩ := key
          simp only at x0 x1 x2
          have HO := Aside0.mk (HI.out.1.alloc (.cells #[.int .i64 y0, .int .u64 y1, .int .u64 y2] 40))
          have HCC := Aside0.mk (Cells.lit wr 40 #[.int .i64 y0, .int .u64 y1, .int .u64 y2] 1 3 rfl (by intro u hu; simp at hu; rcases hu with rfl | rfl | rfl <;> rfl))
          have hbx := below_alloc (Below.refl wr.heap.size wr) (.cells #[.int .i64 y0, .int .u64 y1, .int .u64 y2] 40)
          have HBX := Aside0.mk (HI.out.2.trans (hbx.mono HI.out.2.size))
          clear hbx
          obtain ⟨vA, vL, vc, rfl, hvL⟩ := own_form HO.out
          go_wp2_with (at_builtin; refine append_cells w3.heap.size rfl _ _ 28 40 _ 3 24 rfl Try.underlying28 infoB rfl (by decide) (by decide) (.slice vA vL vc) k ((kk.take k).flatMap bL) [.int .i64 y0, .int .u64 y1, .int .u64 y2] _ 1 1 rfl rfl HO.out HCC.out HBX.out.size (by omega) ?_; intro v1 w5 hown hg hat; have HW := Aside0.mk (And.intro hown (HBX.out.trans (own_grown HO.out hg HBX.out.size))); clear hown hg hat)
          go_roundw
          case rel =>
            refine ⟨k + 1, by omega, by go_num, ?_, HW.out.2⟩
            rw [HTK.out, List.flatMap_append]
            exact HW.out.1
          case measure => (simp [intOf]; omega)
        · have hkn : k = em.length := by omega
          have g3 : decide ((k : Int) < (em.length : Int)) = false := decide_eq_false (by omega)
          have hrow := HI.out.1
          rw [hkn] at hrow
          have hkk2 : kk.take em.length = kk := by rw [← HKK.out.2, List.take_length]
          rw [hkk2] at hrow
          have hcr := CRow.of_own hrow
          obtain ⟨KA, kc, rfl, hk1, hk2, _⟩ := hcr.form
          have HKR := Aside0.mk (show Kd.C k40 wr KA kk.length kk ∧ kk.length ≤ kc from by
            rw [← HKK.out.2] at hcr hk1
            exact ⟨crow_B hcr (by have := HKK.out.2; omega), hk1⟩)
          have d0 := cellOf HC.out.box 0
          have d1 := cellOf HC.out.box 1
          have d2 := cellOf HC.out.box 2
          have HAR := Aside0.mk (Kd.C_below HA.out.2 HI.out.2)
          have HFD1 := Aside0.mk (HFD.out wr HC.out _ AR cR HAR.out HA.out.1 KA kc kk HKR.out.1 HKR.out.2)
          generalize findP ks ws sz (l ++ [⟨em, ep, es, ea⟩]) kk = fp at *
          rw [HKK.out.2, List.length_append, List.length_singleton] at HFD1
          clear hkn hrow hkk2 hcr hk1 hk2
          go_wp2_with fail
          refine Calls.mono HFD1.out ?_
          rintro r w4 ⟨rfl, hb⟩
          have HC4 := Aside0.mk (HC.out.next hb)
          have HK4 := Aside0.mk (Kd.C_below HKR.out.1 hb)
          have hfl := HF1.out
          rw [List.length_append, List.length_singleton] at hfl
          have b1 : decide (fp < 0) = false := decide_eq_false (by omega)
          have b2 : decide (fp ≥ ((l.length + 1 : Nat) : Int)) = false := decide_eq_false (by omega)
          have b3 : decide (fp ≥ (l.length : Int) + 1) = false := decide_eq_false (by omega)
          clear hb hfl HFD1 d0 d1 d2 d4
          have d0 := cellOf HC4.out.box 0
          have d1 := cellOf HC4.out.box 1
          have d2 := cellOf HC4.out.box 2
          have d4 := cellOf HC4.out.box 4
          have d5 := cellOf HC4.out.box 5
          have d6 := cellOf HC4.out.box 6
          have d7 := cellOf HC4.out.box 7
          have hbx := below_alloc (Below.refl w4.heap.size w4) (.cells #[.slice A0 em.length c0, .int .i64 ep, .string es, .slice A3 ea.length c3] 30 (0,0))
          have HC5 := Aside0.mk (HC4.out.next hbx)
          have HONE := Aside0.mk (C_one (x := ⟨em, ep, es, ea⟩) (heap_alloc_new w4 (.cells #[.slice A0 em.length c0, .int .i64 ep, .string es, .slice A3 ea.length c3] 30 (0,0))) HE1.out.1 HC5.out.hm HE1.out.2 HC5.out.ha)
          have HFD2 := Aside0.mk (HFD.out _ HC5.out [⟨em, ep, es, ea⟩] _ 1 HONE.out (Nat.le_refl _) KA kc kk (Kd.C_below HK4.out hbx) HKR.out.2)
          rw [HF2.out, HKK.out.2] at HFD2
          clear hbx
          go_wp2_with fail
          refine Calls.mono HFD2.out ?_
          rintro r w6 ⟨rfl, hb⟩
          have HC6 := Aside0.mk (HC5.out.next hb)
          clear hb
          go_wp2_with fail
          refine Calls.mono (lives_any _) ?_
          rintro r w7 ⟨rfl, hb⟩
          have HC7 := Aside0.mk (HC6.out.next hb)
          clear hb
          go_wp2
          go_ret
          exact ⟨rfl, HC7.out.below⟩
    · have hf1 : (f != 0) = true := by simpa using hf
      clear hf HR
      go_wp2_with fail
      refine Calls.mono (lives_any _) ?_
      rintro r w4 ⟨rfl, hb⟩
      have H4 := Aside0.mk (H3.out.next hb)
      clear hb
      go_wp2
      go_ret
      exact ⟨rfl, H4.out.below⟩
end Go.Proofs.Ytdfmeclhpefmfaa.Own

/- MatchThere: the walk. -/
set_option linter.unusedVariables false
set_option linter.unusedSimpArgs false
set_option maxRecDepth 100000
namespace Go.Proofs.Ytdfmeclhpefmfaa.Own
open Go.RowKit Go.Proofs.Ytdfmeclhpefmfaa.K YtdfmeclhpefmfaaW.PrintWords YtdfmeclhpefmfaaW.PrintLast YtdfmeclhpefmfaaW.PrintMore

/-- What the four calls behind an insertion tell. -/
theorem behind {ks ws : List Int} {sz : Int} {l : List S30} {e : S30} (hc : checkP ks ws sz e = 0) (hno : l.any (oneB e) = false) :
    insP ks ws sz (l ++ [e]) e = ([], 12) ∧ modP ks ws sz (l ++ [e]) e = (l ++ [e], 0) ∧ delP ks ws sz (l ++ [e]) e = (l, 0) ∧ delP ks ws sz l e = ([], 11) := by
  have hpl := place_new hno
  have hge : ¬ ((l.length : Int) < 0) := by omega
  refine ⟨?_, ?_, ?_, ?_⟩
  · unfold insP
    rw [if_pos hc, hpl, if_pos (by omega)]
  · unfold modP
    rw [if_pos hc, hpl, if_neg hge, Int.toNat_natCast]
    have hg : (l ++ [e]).getD l.length z30 = e := by simp [List.getD_eq_getElem?_getD]
    rw [hg]
    have ha : actE e e = e := rfl
    rw [ha, List.set_append_right _ _ (Nat.le_refl _), Nat.sub_self]
    rfl
  · unfold delP
    rw [if_pos hc, hpl, if_neg hge, Int.toNat_natCast]
    unfold Own.cutAt
    simp
  · unfold delP
    rw [if_pos hc, place_no hno, if_pos (by decide)]
theorem sameEs_any (l : List S30) (hx : ∀ x ∈ l, tiny x) (hl : l.length ≤ 30001) (A : Option Addr) (c : Nat) (B : Option Addr) (d : Nat) (w : World) (h1 : Kd.C k30 w A l.length l) (h2 : l.length ≤ c) (h3 : Kd.C k30 w B l.length l) (h4 : l.length ≤ d) :
    Calls Try.prog 16 #[.slice A l.length c, .slice B l.length d] w fun e w' => e = .returned (.bool true) ∧ Below w.heap.size w w' :=
  pointsmanlaw01_SameEntries.calls (l.length + 30002) A c l B d l true w h1 h2 h3 h4 (same_refl l hx hl _ (by omega))
set_option maxHeartbeats 3200000 in
theorem there_any (A : Option Addr) (c : Nat) (ks : List Int) (B : Option Addr) (d : Nat) (ws : List Int) (sz : Int) (A1 : Option Addr) (c1 : Nat) (l : List S30) (A0 A3 : Option Addr) (c0 c3 : Nat) (e : S30) (w : World) (ht : TabAt w A c ks B d ws)
    (hl : Kd.C k30 w A1 l.length l) (hl1 : l.length ≤ c1) (hm : Kd.C k42 w A0 e.f0.length e.f0) (hm1 : e.f0.length ≤ c0) (ha : Kd.C k40 w A3 e.f3.length e.f3) (ha1 : e.f3.length ≤ c3) (hl47 : l.length ≤ B47) (hb : ∀ x ∈ l, bigOk x) (he : bigOk e) (hk47 : ks.length ≤ B47) (hw47 : ws.length ≤ B47) :
    Calls Try.prog 7 #[.agg #[.slice A ks.length c, .slice B ws.length d, .int .i64 sz, .slice A1 l.length c1, .slice A0 e.f0.length c0, .int .i64 e.f1, .string e.f2, .slice A3 e.f3.length c3]] w fun r w' => r = .returned (.bool true) ∧ Below w.heap.size w w' := by
  have hu25 := Try.underlying25
  have hu30 := Try.underlying30
  have hu32 := Try.underlying32
  obtain ⟨b, hbe, hfew⟩ := beyond_f ks ws sz l e hl47 hb he hk47 hw47 (l.length + 1) (by omega)
  have hb1 := below_alloc (Below.refl w.heap.size w) (.cells #[.slice A ks.length c, .slice B ws.length d, .int .i64 sz, .slice A1 l.length c1, .slice A0 e.f0.length c0, .int .i64 e.f1, .string e.f2, .slice A3 e.f3.length c3] 32 (0,0))
  have H1 := Aside0.mk (show CaseAt w w.heap.size A c ks B d ws sz A1 c1 l A0 A3 c0 c3 e _ from ⟨heap_alloc_new w _, ht.below hb1, Kd.C_below hl hb1, Kd.C_below hm hb1, Kd.C_below ha hb1, hb1⟩)
  have HBY := Aside0.mk (fun W (h : CaseAt w w.heap.size A c ks B d ws sz A1 c1 l A0 A3 c0 c3 e W) => pointsmanlaw13_beyond.calls (l.length + 1) A c ks B d ws sz A1 c1 l A0 c0 e.f0 e.f1 e.f2 A3 c3 e.f3 b W h.tab.hk h.tab.hc h.tab.hw h.tab.hd h.hl hl1 h.hm hm1 h.ha ha1 hbe)
  have HIN := Aside0.mk (fun W (h : CaseAt w w.heap.size A c ks B d ws sz A1 c1 l A0 A3 c0 c3 e W) (L : List S30) (AL : Option Addr) (cL : Nat) (hL : Kd.C k30 W AL L.length L) (hL1 : L.length ≤ cL) (hsL : small L) (hs : e.f0.length ≤ 1000000 ∧ e.f3.length ≤ 1000000) => insert_any sz L (c1 := cL) (c0 := c0) (c3 := c3) e W h.tab h.hm hm1 h.ha ha1 hL hL1 hsL hs)
  have HMO := Aside0.mk (fun W (h : CaseAt w w.heap.size A c ks B d ws sz A1 c1 l A0 A3 c0 c3 e W) (L : List S30) (AL : Option Addr) (cL : Nat) (hL : Kd.C k30 W AL L.length L) (hL1 : L.length ≤ cL) (hsL : small L) (hs : e.f0.length ≤ 1000000 ∧ e.f3.length ≤ 1000000) => modify_ok sz L (c1 := cL) (c0 := c0) (c3 := c3) e W h.tab h.hm hm1 h.ha ha1 hL hL1 hsL hs)
  have HDE := Aside0.mk (fun W (h : CaseAt w w.heap.size A c ks B d ws sz A1 c1 l A0 A3 c0 c3 e W) (L : List S30) (AL : Option Addr) (cL : Nat) (hL : Kd.C k30 W AL L.length L) (hL1 : L.length ≤ cL) (hsL : small L) (hs : e.f0.length ≤ 1000000 ∧ e.f3.length ≤ 1000000) => delete_ok sz L (c1 := cL) (c0 := c0) (c3 := c3) e W h.tab h.hm hm1 h.ha ha1 hL hL1 hsL hs)
  have HL1 := Aside0.mk hl1
  clear ht hl hl1 hm hm1 ha ha1 hl47 hb he hk47 hw47 hb1 hbe
  cases b with
  | true =>
    clear hfew
    obtain ⟨em, ep, es, ea⟩ := e
    simp only at *
    go_enter Try.func7, Try.ntmps7
    go_wp2_with fail
    refine Calls.mono (HBY.out _ H1.out) ?_
    rintro r w2 ⟨rfl, hb⟩
    have H2 := Aside0.mk (H1.out.next hb)
    clear hb
    go_wp2_with fail
    refine Calls.mono (lives_any _) ?_
    rintro r w3 ⟨rfl, hb⟩
    have H3 := Aside0.mk (H2.out.next hb)
    clear hb
    go_wp2
    go_ret
    exact ⟨rfl, H3.out.below⟩
  | false =>
    have HFW := Aside0.mk (hfew rfl)
    have HSM := Aside0.mk (few_small (hfew rfl))
    clear hfew
    rcases hins : insP ks ws sz l e with ⟨R, f⟩
    have HR := Aside0.mk (ins_ok hins)
    have HI2 := Aside0.mk (fun W (h : CaseAt w w.heap.size A c ks B d ws sz A1 c1 l A0 A3 c0 c3 e W) => by
      have := HIN.out W h l A1 c1 h.hl HL1.out HSM.out.1 HSM.out.2
      rw [hins] at this
      exact this)
    clear hins
    rcases HR.out with ⟨rfl, rfl, hck, hno, hlt⟩ | ⟨hf, rfl⟩
    · have HX1 := Aside0.mk (show ∀ x ∈ l ++ [e], tiny x from fun x hx => by
        rcases List.mem_append.1 hx with h | h
        · exact HFW.out.hx x h
        · rw [List.mem_singleton.1 h]; exact HFW.out.he)
      have HLL := Aside0.mk (show (l ++ [e]).length ≤ 30001 from by have := HFW.out.hl; simp; omega)
      have HSM1 := Aside0.mk (show small (l ++ [e]) from ⟨by have := HLL.out; omega, fun x hx => by have := HX1.out x hx; unfold tiny at this; omega⟩)
      obtain ⟨b1, b2, b3, b4⟩ := behind hck hno
      have HIN1 := Aside0.mk (fun W (h : CaseAt w w.heap.size A c ks B d ws sz A1 c1 l A0 A3 c0 c3 e W) (AL : Option Addr) (cL : Nat) (hL : Kd.C k30 W AL (l ++ [e]).length (l ++ [e])) (hL1 : (l ++ [e]).length ≤ cL) => by
        have := HIN.out W h (l ++ [e]) AL cL hL hL1 HSM1.out HSM.out.2
        rw [b1] at this
        exact this)
      have HMO1 := Aside0.mk (fun W (h : CaseAt w w.heap.size A c ks B d ws sz A1 c1 l A0 A3 c0 c3 e W) (AL : Option Addr) (cL : Nat) (hL : Kd.C k30 W AL (l ++ [e]).length (l ++ [e])) (hL1 : (l ++ [e]).length ≤ cL) => by
        have := HMO.out W h (l ++ [e]) AL cL hL hL1 HSM1.out HSM.out.2
        rw [b2] at this
        exact this)
      have HDE1 := Aside0.mk (fun W (h : CaseAt w w.heap.size A c ks B d ws sz A1 c1 l A0 A3 c0 c3 e W) (AL : Option Addr) (cL : Nat) (hL : Kd.C k30 W AL (l ++ [e]).length (l ++ [e])) (hL1 : (l ++ [e]).length ≤ cL) => by
        have := HDE.out W h (l ++ [e]) AL cL hL hL1 HSM1.out HSM.out.2
        rw [b3] at this
        exact this)
      have HDE2 := Aside0.mk (fun W (h : CaseAt w w.heap.size A c ks B d ws sz A1 c1 l A0 A3 c0 c3 e W) (AL : Option Addr) (cL : Nat) (hL : Kd.C k30 W AL l.length l) (hL1 : l.length ≤ cL) => by
        have := HDE.out W h l AL cL hL hL1 HSM.out.1 HSM.out.2
        rw [b4] at this
        exact this)
      obtain ⟨Rl, hRl⟩ : ∃ Rl, Rl = l ++ [e] := ⟨_, rfl⟩
      rw [← hRl] at HX1 HLL HIN1 HMO1 HDE1 HI2
      clear hRl b1 b2 b3 b4 hck hno hlt HR HIN HMO HDE HSM1
      obtain ⟨em, ep, es, ea⟩ := e
      simp only at *
      go_enter Try.func7, Try.ntmps7
      go_wp2_with fail
      refine Calls.mono (HBY.out _ H1.out) ?_
      rintro r w2 ⟨rfl, hb⟩
      have H2 := Aside0.mk (H1.out.next hb)
      clear hb
      have d0 := cellOf H2.out.box 0
      have d1 := cellOf H2.out.box 1
      have d2 := cellOf H2.out.box 2
      have d3 := cellOf H2.out.box 3
      have d4 := cellOf H2.out.box 4
      have d5 := cellOf H2.out.box 5
      have d6 := cellOf H2.out.box 6
      have d7 := cellOf H2.out.box 7
      go_wp2_with fail
      refine Calls.mono (HI2.out _ H2.out) ?_
      rintro r w3 ⟨v, rfl, hA, hb⟩
      have H3 := Aside0.mk (H2.out.next hb)
      obtain ⟨AR, cR, rfl, hcR, hCR⟩ := hA.reads
      have HA3 := Aside0.mk (And.intro hcR hCR)
      clear hA hb hcR hCR d0 d1 d2 d3 d4 d5 d6 d7
      have d0 := cellOf H3.out.box 0
      have d1 := cellOf H3.out.box 1
      have d2 := cellOf H3.out.box 2
      have d3 := cellOf H3.out.box 3
      have d4 := cellOf H3.out.box 4
      have d5 := cellOf H3.out.box 5
      have d6 := cellOf H3.out.box 6
      have d7 := cellOf H3.out.box 7
      go_wp2_with fail
      refine Calls.mono (HIN1.out _ H3.out AR cR HA3.out.2 HA3.out.1) ?_
      rintro r w4 ⟨v, rfl, hA, hb⟩
      have H4 := Aside0.mk (H3.out.next hb)
      obtain ⟨A4, c4, rfl, _, _⟩ := hA.reads
      have HA4 := Aside0.mk (Kd.C_below HA3.out.2 hb)
      clear hA hb d0 d1 d2 d3 d4 d5 d6 d7
      have d0 := cellOf H4.out.box 0
      have d1 := cellOf H4.out.box 1
      have d2 := cellOf H4.out.box 2
      have d3 := cellOf H4.out.box 3
      have d4 := cellOf H4.out.box 4
      have d5 := cellOf H4.out.box 5
      have d6 := cellOf H4.out.box 6
      have d7 := cellOf H4.out.box 7
      go_wp2_with fail
      refine Calls.mono (HMO1.out _ H4.out AR cR HA4.out HA3.out.1) ?_
      rintro r w5 ⟨v, rfl, hA, hb⟩
      have H5 := Aside0.mk (H4.out.next hb)
      obtain ⟨A5, c5, rfl, h51, h52⟩ := hA.reads
      have HA5 := Aside0.mk (Kd.C_below HA4.out hb)
      have HM5 := Aside0.mk (And.intro h51 h52)
      clear hA hb h51 h52 d0 d1 d2 d3 d4 d5 d6 d7
      have d0 := cellOf H5.out.box 0
      have d1 := cellOf H5.out.box 1
      have d2 := cellOf H5.out.box 2
      have d3 := cellOf H5.out.box 3
      have d4 := cellOf H5.out.box 4
      have d5 := cellOf H5.out.box 5
      have d6 := cellOf H5.out.box 6
      have d7 := cellOf H5.out.box 7
      go_wp2_with fail
      refine Calls.mono (HDE1.out _ H5.out AR cR HA5.out HA3.out.1) ?_
      rintro r w6 ⟨v, rfl, hA, hb⟩
      have H6 := Aside0.mk (H5.out.next hb)
      obtain ⟨A6, c6, rfl, h61, h62⟩ := hA.reads
      have HA6 := Aside0.mk (Kd.C_below HA5.out hb)
      have HM6 := Aside0.mk (Kd.C_below HM5.out.2 hb)
      have HD6 := Aside0.mk (And.intro h61 h62)
      clear hA hb h61 h62 d0 d1 d2 d3 d4 d5 d6 d7
      have d0 := cellOf H6.out.box 0
      have d1 := cellOf H6.out.box 1
      have d2 := cellOf H6.out.box 2
      have d3 := cellOf H6.out.box 3
      have d4 := cellOf H6.out.box 4
      have d5 := cellOf H6.out.box 5
      have d6 := cellOf H6.out.box 6
      have d7 := cellOf H6.out.box 7
      go_wp2_with fail
      refine Calls.mono (HDE2.out _ H6.out A6 c6 HD6.out.2 HD6.out.1) ?_
      rintro r w7 ⟨v, rfl, hA, hb⟩
      have H7 := Aside0.mk (H6.out.next hb)
      obtain ⟨A7, c7, rfl, _, _⟩ := hA.reads
      have HA7 := Aside0.mk (Kd.C_below HA6.out hb)
      have HM7 := Aside0.mk (Kd.C_below HM6.out hb)
      have HD7 := Aside0.mk (Kd.C_below HD6.out.2 hb)
      clear hA hb d0 d1 d2 d3 d4 d5 d6 d7
      have HS1 := Aside0.mk (sameEs_any Rl HX1.out HLL.out A5 c5 AR cR w7 HM7.out HM5.out.1 HA7.out HA3.out.1)
      go_wp2_with fail
      refine Calls.mono HS1.out ?_
      rintro r w8 ⟨rfl, hb⟩
      have H8 := Aside0.mk (H7.out.next hb)
      have HD8 := Aside0.mk (Kd.C_below HD7.out hb)
      clear hb
      have d3 := cellOf H8.out.box 3
      have HS2 := Aside0.mk (sameEs_any l HFW.out.hx (by have := HFW.out.hl; omega) A6 c6 A1 c1 w8 HD8.out HD6.out.1 H8.out.hl HL1.out)
      go_wp2_with fail
      refine Calls.mono HS2.out ?_
      rintro r w9 ⟨rfl, hb⟩
      have H9 := Aside0.mk (H8.out.next hb)
      clear hb
      go_wp2_with fail
      refine Calls.mono (lives_any _) ?_
      rintro r w10 ⟨rfl, hb⟩
      have H10 := Aside0.mk (H9.out.next hb)
      clear hb
      go_wp2
      go_ret
      exact ⟨rfl, H10.out.below⟩
    · have hf1 : (f != 0) = true := by simpa using hf
      clear hf HR HIN HMO HDE
      obtain ⟨em, ep, es, ea⟩ := e
      simp only at *
      go_enter Try.func7, Try.ntmps7
      go_wp2_with fail
      refine Calls.mono (HBY.out _ H1.out) ?_
      rintro r w2 ⟨rfl, hb⟩
      have H2 := Aside0.mk (H1.out.next hb)
      clear hb
      have d0 := cellOf H2.out.box 0
      have d1 := cellOf H2.out.box 1
      have d2 := cellOf H2.out.box 2
      have d3 := cellOf H2.out.box 3
      have d4 := cellOf H2.out.box 4
      have d5 := cellOf H2.out.box 5
      have d6 := cellOf H2.out.box 6
      have d7 := cellOf H2.out.box 7
      go_wp2_with fail
      refine Calls.mono (HI2.out _ H2.out) ?_
      rintro r w3 ⟨v, rfl, hA, hb⟩
      have H3 := Aside0.mk (H2.out.next hb)
      obtain ⟨AR, cR, rfl, hcR, hCR⟩ := hA.reads
      clear hA hb hcR hCR d0 d1 d2 d3 d4 d5 d6 d7
      go_wp2_with fail
      refine Calls.mono (lives_any _) ?_
      rintro r w4 ⟨rfl, hb⟩
      have H4 := Aside0.mk (H3.out.next hb)
      clear hb
      go_wp2
      go_ret
      exact ⟨rfl, H4.out.below⟩
end Go.Proofs.Ytdfmeclhpefmfaa.Own

/- Tables, entries and keys that came in, opened. -/
set_option linter.unusedVariables false
set_option linter.unusedSimpArgs false
set_option maxRecDepth 100000
namespace Go.Proofs.Ytdfmeclhpefmfaa.Own
open Go.RowKit Go.ChangeShapes Go.Proofs.Ytdfmeclhpefmfaa.K YtdfmeclhpefmfaaW.PrintWords YtdfmeclhpefmfaaW.PrintLast YtdfmeclhpefmfaaW.PrintMore

section
variable {H : Type} {enc : TypeId × Value → H} {W : World}
theorem came_bits {cs : List Value} (h : Came enc Try.prog W 40 cs) : ∃ b : S40, cs = bL b := by
  obtain ⟨hl, hf⟩ := h.struct Try.underlying40
  have h3c : Try.prog.cellsOf 40 = 3 := by kernel_rfl
  rw [h3c] at hl
  match cs, hl with
  | [x0, x1, x2], _ =>
    have f0 : Came enc Try.prog W 3 (([x0, x1, x2].drop 0).take (Try.prog.cellsOf 3)) := hf 0 _ rfl
    have f1 : Came enc Try.prog W 38 (([x0, x1, x2].drop 1).take (Try.prog.cellsOf 38)) := hf 1 _ rfl
    have f2 : Came enc Try.prog W 38 (([x0, x1, x2].drop 2).take (Try.prog.cellsOf 38)) := hf 2 _ rfl
    have c3 : Try.prog.cellsOf 3 = 1 := by kernel_rfl
    have c38 : Try.prog.cellsOf 38 = 1 := by kernel_rfl
    rw [c3] at f0
    rw [c38] at f1 f2
    obtain ⟨a, h0, _⟩ := f0.int Try.underlying3
    obtain ⟨b, h1, _⟩ := f1.int Try.underlying38
    obtain ⟨c, h2, _⟩ := f2.int Try.underlying38
    injection h0 with h0 _
    injection h1 with h1 _
    injection h2 with h2 _
    exact ⟨⟨a, b, c⟩, by rw [h0, h1, h2]; rfl⟩
theorem came_match {cs : List Value} (h : Came enc Try.prog W 42 cs) : ∃ m : S42, cs = mL m := by
  obtain ⟨hl, hf⟩ := h.struct Try.underlying42
  have h3c : Try.prog.cellsOf 42 = 7 := by kernel_rfl
  rw [h3c] at hl
  match cs, hl with
  | [x0, x1, x2, x3, x4, x5, x6], _ =>
    have f0 : Came enc Try.prog W 40 (([x0, x1, x2, x3, x4, x5, x6].drop 0).take (Try.prog.cellsOf 40)) := hf 0 _ rfl
    have f1 : Came enc Try.prog W 40 (([x0, x1, x2, x3, x4, x5, x6].drop 3).take (Try.prog.cellsOf 40)) := hf 1 _ rfl
    have f2 : Came enc Try.prog W 3 (([x0, x1, x2, x3, x4, x5, x6].drop 6).take (Try.prog.cellsOf 3)) := hf 2 _ rfl
    have c40 : Try.prog.cellsOf 40 = 3 := by kernel_rfl
    have c3 : Try.prog.cellsOf 3 = 1 := by kernel_rfl
    rw [c40] at f0 f1
    rw [c3] at f2
    obtain ⟨a, h0⟩ := came_bits f0
    obtain ⟨b, h1⟩ := came_bits f1
    obtain ⟨c, h2, _⟩ := f2.int Try.underlying3
    simp only [List.drop, List.take, bL] at h0 h1 h2
    injection h0 with e0 h0
    injection h0 with e1 h0
    injection h0 with e2 _
    injection h1 with e3 h1
    injection h1 with e4 h1
    injection h1 with e5 _
    injection h2 with e6 _
    exact ⟨⟨a, b, c⟩, by rw [e0, e1, e2, e3, e4, e5, e6]; rfl⟩
/-- A slice of elements that stand for themselves. -/
theorem came_rows {α : Type} [Inhabited α] (d : Kd α) (z : α) (f : α → List Value) {t e : TypeId} (ht : Try.prog.underlying t = some (.slice e)) (hsz : Try.prog.cellsOf e = d.sz) (hs0 : d.sz ≠ 0) (hf : ∀ x, (f x).length = d.sz) (hK : ∀ x, d.K W x (f x)) (hb : 0 < Try.prog.bytesOf e)
    (hce : ∀ cs, Came enc Try.prog W e cs → ∃ x, cs = f x) {A : Option Addr} {n c : Nat} (h : Came enc Try.prog W t [.slice A n c]) :
    ∃ xs : List α, xs.length = n ∧ Kd.C d W A n xs ∧ n ≤ c ∧ n ≤ B47 := by
  obtain ⟨A', n', c', h1, h2, h3, h4, h5, h6, h7⟩ := h.slice ht
  injection h1 with h1 _
  injection h1 with h1 h1' h1''
  subst h1 h1' h1''
  have hn47 : n ≤ B47 := by
    unfold B47
    exact Nat.le_trans (Nat.le_mul_of_pos_right _ hb) h4
  unfold maxLen at h3
  rcases A with _ | ad
  · obtain ⟨rfl, _⟩ := h6 rfl
    exact ⟨[], rfl, ⟨rfl, by simp, fun h => by simp at h⟩, h2, hn47⟩
  · obtain ⟨xs, hl, hx⟩ := list_of z n (p := fun i x => ∀ j u, (f x)[j]? = some u → W.cell? (ad.add (i * d.sz + j)) = some u) (fun i hi => by
      obtain ⟨cs', h8, h9⟩ := h7 ad rfl i hi
      obtain ⟨x, rfl⟩ := hce _ h9
      obtain ⟨_, hlen, hc⟩ := World.cells?_some h8
      refine ⟨x, fun j u hu => ?_⟩
      have hj : j < (f x).length := (List.getElem?_eq_some_iff.1 hu).1
      have := hc j (by rw [hsz, ← hf x]; exact hj)
      rw [hsz] at this
      rw [hu] at this
      rw [Addr.add_add] at this
      exact this)
    refine ⟨xs, hl, ⟨hl, by omega, fun hn => ⟨ad, rfl, fun j p hj => ?_⟩⟩, h2, hn47⟩
    have hjn : j < n := by rw [← hl]; exact (List.getElem?_eq_some_iff.1 hj).1
    have hp : xs.getD j z = p := by rw [List.getD_eq_getElem?_getD, hj]; rfl
    have := hx j hjn
    rw [hp] at this
    exact ⟨f p, hf p, hK p, this⟩
theorem came_numbers {A : Option Addr} {n c : Nat} (h : Came enc Try.prog W 28 [.slice A n c]) : ∃ xs : List S40, xs.length = n ∧ Kd.C k40 W A n xs ∧ n ≤ c ∧ n ≤ B47 :=
  haveI : Inhabited S40 := ⟨z40⟩
  came_rows k40 z40 bL Try.underlying28 (by kernel_rfl) (by decide) (fun _ => rfl) (fun x => k40_mk W x) (by rw [show Try.prog.bytesOf 40 = 24 by kernel_rfl]; decide) (fun _ h => came_bits h) h
theorem came_matches {A : Option Addr} {n c : Nat} (h : Came enc Try.prog W 27 [.slice A n c]) : ∃ xs : List S42, xs.length = n ∧ Kd.C k42 W A n xs ∧ n ≤ c ∧ n ≤ B47 :=
  haveI : Inhabited S42 := ⟨z42⟩
  came_rows k42 z42 mL Try.underlying27 (by kernel_rfl) (by decide) (fun _ => rfl) (fun x => k42_mk W x) (by rw [show Try.prog.bytesOf 42 = 56 by kernel_rfl]; decide) (fun _ h => came_match h) h
theorem came_intsC {k : IntKind} {t e : TypeId} (ht : Try.prog.underlying t = some (.slice e)) (he : Try.prog.underlying e = some (.int k)) (hc : Try.prog.cellsOf e = 1) (hb : 0 < Try.prog.bytesOf e) {A : Option Addr} {n c : Nat} (h : Came enc Try.prog W t [.slice A n c]) : ∃ xs : List Int, xs.length = n ∧ Kd.C (Kd.int k) W A n xs ∧ n ≤ c ∧ n ≤ B47 :=
  came_rows (Kd.int k) 0 (fun x => [.int k x]) ht hc (by show (1 : Nat) ≠ 0; decide) (fun _ => rfl) (fun x => rfl) hb (fun _ h => by obtain ⟨x, hx, _⟩ := h.int he; exact ⟨x, hx⟩) h
/-- A row's slice, told by its cell. -/
theorem came_form {t e : TypeId} (ht : Try.prog.underlying t = some (.slice e)) {v : Value} (h : Came enc Try.prog W t [v]) : ∃ A n c, v = .slice A n c := by
  obtain ⟨A, n, c, h1, _⟩ := h.slice ht
  injection h1 with h1 _
  exact ⟨A, n, c, h1⟩
theorem came_entry {cs : List Value} (h : Came enc Try.prog W 30 cs) : ∃ (x : S30) (A0 A3 : Option Addr) (c0 c3 : Nat), cs = [.slice A0 x.f0.length c0, .int .i64 x.f1, .string x.f2, .slice A3 x.f3.length c3] ∧ x.f0.length ≤ c0 ∧ Kd.C k42 W A0 x.f0.length x.f0 ∧ x.f3.length ≤ c3 ∧ Kd.C k40 W A3 x.f3.length x.f3 ∧ bigOk x := by
  obtain ⟨hl, hf⟩ := h.struct Try.underlying30
  have h3c : Try.prog.cellsOf 30 = 4 := by kernel_rfl
  rw [h3c] at hl
  match cs, hl with
  | [x0, x1, x2, x3], _ =>
    have f0 : Came enc Try.prog W 27 (([x0, x1, x2, x3].drop 0).take (Try.prog.cellsOf 27)) := hf 0 _ rfl
    have f1 : Came enc Try.prog W 3 (([x0, x1, x2, x3].drop 1).take (Try.prog.cellsOf 3)) := hf 1 _ rfl
    have f2 : Came enc Try.prog W 9 (([x0, x1, x2, x3].drop 2).take (Try.prog.cellsOf 9)) := hf 2 _ rfl
    have f3 : Came enc Try.prog W 28 (([x0, x1, x2, x3].drop 3).take (Try.prog.cellsOf 28)) := hf 3 _ rfl
    have c27 : Try.prog.cellsOf 27 = 1 := by kernel_rfl
    have c3 : Try.prog.cellsOf 3 = 1 := by kernel_rfl
    have c9 : Try.prog.cellsOf 9 = 1 := by kernel_rfl
    have c28 : Try.prog.cellsOf 28 = 1 := by kernel_rfl
    rw [c27] at f0
    rw [c3] at f1
    rw [c9] at f2
    rw [c28] at f3
    simp only [List.drop, List.take] at f0 f1 f2 f3
    obtain ⟨A0, n0, k0, rfl⟩ := came_form Try.underlying27 f0
    obtain ⟨A3, n3, k3, rfl⟩ := came_form Try.underlying28 f3
    obtain ⟨p, hp, _⟩ := f1.int Try.underlying3
    obtain ⟨s, hs, hs47⟩ := f2.string Try.underlying9
    obtain ⟨ms, rfl, m2, m3, m4⟩ := came_matches f0
    obtain ⟨gs, rfl, g2, g3, g4⟩ := came_numbers f3
    injection hp with hp _
    injection hs with hs _
    subst hp hs
    exact ⟨⟨ms, p, s, gs⟩, A0, A3, k0, k3, rfl, m3, m2, g3, g2, m4, hs47, g4⟩
theorem came_entries {A : Option Addr} {n c : Nat} (h : Came enc Try.prog W 26 [.slice A n c]) : ∃ l : List S30, l.length = n ∧ Kd.C k30 W A n l ∧ n ≤ c ∧ n ≤ B47 ∧ ∀ x ∈ l, bigOk x := by
  obtain ⟨A', n', c', h1, h2, h3, h4, h5, h6, h7⟩ := h.slice Try.underlying26
  injection h1 with h1 _
  injection h1 with h1 h1' h1''
  subst h1 h1' h1''
  have hb : Try.prog.bytesOf 30 = 72 := by kernel_rfl
  have h3c : Try.prog.cellsOf 30 = 4 := by kernel_rfl
  rw [hb] at h4
  rw [h3c] at h7
  unfold maxLen at h3
  rcases A with _ | ad
  · obtain ⟨rfl, _⟩ := h6 rfl
    exact ⟨[], rfl, ⟨rfl, by simp, fun h => by simp at h⟩, h2, by unfold B47; omega, fun x hx => by cases hx⟩
  · haveI : Inhabited S30 := ⟨z30⟩
    obtain ⟨xs, hl, hx⟩ := list_of z30 n (p := fun i x => (∃ cs, cs.length = 4 ∧ k30.K W x cs ∧ ∀ j u, cs[j]? = some u → W.cell? (ad.add (i * 4 + j)) = some u) ∧ bigOk x) (fun i hi => by
      obtain ⟨cs', h8, h9⟩ := h7 ad rfl i hi
      obtain ⟨x, A0, A3, c0, c3, rfl, e1, e2, e3, e4, e5⟩ := came_entry h9
      obtain ⟨_, hlen, hc⟩ := World.cells?_some h8
      refine ⟨x, ⟨_, rfl, k30_mk W x e1 e2 e3 e4, fun j u hu => ?_⟩, e5⟩
      have hj : j < 4 := (List.getElem?_eq_some_iff.1 hu).1
      have := hc j hj
      rw [hu, Addr.add_add] at this
      exact this)
    refine ⟨xs, hl, ⟨hl, by omega, fun hn => ⟨ad, rfl, fun j p hj => ?_⟩⟩, h2, by unfold B47; omega, fun x hm => ?_⟩
    · have hjn : j < n := by rw [← hl]; exact (List.getElem?_eq_some_iff.1 hj).1
      have hp : xs.getD j z30 = p := by rw [List.getD_eq_getElem?_getD, hj]; rfl
      obtain ⟨⟨cs, e1, e2, e3⟩, _⟩ := hx j hjn
      rw [hp] at e2
      exact ⟨cs, e1, e2, e3⟩
    · obtain ⟨i, hi, rfl⟩ := List.mem_iff_getElem.1 hm
      have := (hx i (by omega)).2
      rwa [List.getD_eq_getElem?_getD, List.getElem?_eq_getElem hi] at this
/-- A case: a table, its entries, and one more. -/
theorem came_case {cs : List Value} (h : Came enc Try.prog W 32 cs) : ∃ (A : Option Addr) (c : Nat) (ks : List Int) (B : Option Addr) (d : Nat) (ws : List Int) (sz : Int) (A1 : Option Addr) (c1 : Nat) (l : List S30) (A0 A3 : Option Addr) (c0 c3 : Nat) (e : S30),
    cs = [.slice A ks.length c, .slice B ws.length d, .int .i64 sz, .slice A1 l.length c1, .slice A0 e.f0.length c0, .int .i64 e.f1, .string e.f2, .slice A3 e.f3.length c3] ∧
    TabAt W A c ks B d ws ∧ ks.length ≤ B47 ∧ ws.length ≤ B47 ∧ (Kd.C k30 W A1 l.length l ∧ l.length ≤ c1 ∧ l.length ≤ B47 ∧ ∀ x ∈ l, bigOk x) ∧ e.f0.length ≤ c0 ∧ Kd.C k42 W A0 e.f0.length e.f0 ∧ e.f3.length ≤ c3 ∧ Kd.C k40 W A3 e.f3.length e.f3 ∧ bigOk e := by
  obtain ⟨hl, hf⟩ := h.struct Try.underlying32
  have h3c : Try.prog.cellsOf 32 = 8 := by kernel_rfl
  rw [h3c] at hl
  match cs, hl with
  | [x0, x1, x2, x3, x4, x5, x6, x7], _ =>
    have f0 : Came enc Try.prog W 25 (([x0, x1, x2, x3, x4, x5, x6, x7].drop 0).take (Try.prog.cellsOf 25)) := hf 0 _ rfl
    have f1 : Came enc Try.prog W 26 (([x0, x1, x2, x3, x4, x5, x6, x7].drop 3).take (Try.prog.cellsOf 26)) := hf 1 _ rfl
    have f2 : Came enc Try.prog W 30 (([x0, x1, x2, x3, x4, x5, x6, x7].drop 4).take (Try.prog.cellsOf 30)) := hf 2 _ rfl
    have c25 : Try.prog.cellsOf 25 = 3 := by kernel_rfl
    have c26 : Try.prog.cellsOf 26 = 1 := by kernel_rfl
    have c30 : Try.prog.cellsOf 30 = 4 := by kernel_rfl
    rw [c25] at f0
    rw [c26] at f1
    rw [c30] at f2
    simp only [List.drop, List.take] at f0 f1 f2
    obtain ⟨tl, tf⟩ := f0.struct Try.underlying25
    have t0 : Came enc Try.prog W 22 (([x0, x1, x2].drop 0).take (Try.prog.cellsOf 22)) := tf 0 _ rfl
    have t1 : Came enc Try.prog W 23 (([x0, x1, x2].drop 1).take (Try.prog.cellsOf 23)) := tf 1 _ rfl
    have t2 : Came enc Try.prog W 3 (([x0, x1, x2].drop 2).take (Try.prog.cellsOf 3)) := tf 2 _ rfl
    have c22 : Try.prog.cellsOf 22 = 1 := by kernel_rfl
    have c23 : Try.prog.cellsOf 23 = 1 := by kernel_rfl
    have c3 : Try.prog.cellsOf 3 = 1 := by kernel_rfl
    rw [c22] at t0
    rw [c23] at t1
    rw [c3] at t2
    simp only [List.drop, List.take] at t0 t1 t2
    obtain ⟨A, n0, k0, rfl⟩ := came_form Try.underlying22 t0
    obtain ⟨B, n1, k1, rfl⟩ := came_form Try.underlying23 t1
    obtain ⟨sz, hsz, _⟩ := t2.int Try.underlying3
    obtain ⟨A1, n2, k2, rfl⟩ := came_form Try.underlying26 f1
    obtain ⟨ks, rfl, i1, i2, i3⟩ := came_intsC (k := .u8) Try.underlying22 Try.underlying47 (by kernel_rfl) (by rw [show Try.prog.bytesOf 47 = 1 by kernel_rfl]; decide) t0
    obtain ⟨ws, rfl, j1, j2, j3⟩ := came_intsC (k := .i64) Try.underlying23 Try.underlying3 (by kernel_rfl) (by rw [show Try.prog.bytesOf 3 = 8 by kernel_rfl]; decide) t1
    obtain ⟨l, rfl, l1, l2, l3, l4⟩ := came_entries f1
    obtain ⟨e, A0, A3, c0, c3', he, e1, e2, e3, e4, e5⟩ := came_entry f2
    injection hsz with hsz _
    injection he with h4 he
    injection he with h5 he
    injection he with h6 he
    injection he with h7 _
    subst hsz h4 h5 h6 h7
    exact ⟨A, k0, ks, B, k1, ws, sz, A1, k2, l, A0, A3, c0, c3', e, rfl, ⟨i1, i2, j1, j2⟩, i3, j3, ⟨l1, l2, l3, l4⟩, e1, e2, e3, e4, e5⟩
end
end Go.Proofs.Ytdfmeclhpefmfaa.Own

/- MatchExact, plainly: the places of numbers, each once. -/
set_option linter.unusedVariables false
set_option linter.unusedSimpArgs false
set_option maxRecDepth 100000
namespace Go.Proofs.Ytdfmeclhpefmfaa.Own
open Go.RowKit Go.Proofs.Ytdfmeclhpefmfaa.K YtdfmeclhpefmfaaW.PrintWords YtdfmeclhpefmfaaW.PrintLast YtdfmeclhpefmfaaW.PrintMore

theorem fIdx_snoc {α : Type} (p : α → Bool) (x : α) : ∀ l : List α, fIdx p (l ++ [x]) = if fIdx p l < 0 then (if p x then (l.length : Int) else -1) else fIdx p l
  | [] => by
    by_cases h : p x = true
    · simp [fIdx, h]
    · simp [fIdx, h]
  | y :: l => by
    have ih := fIdx_snoc p x l
    rw [List.cons_append]
    by_cases hy : p y = true
    · simp [fIdx, hy]
    · have hy' : p y = false := by simpa using hy
      simp only [fIdx, hy', ih]
      by_cases h : fIdx p l < 0
      · by_cases hx : p x = true
        · have : ¬ ((l.length : Int) < 0) := by omega
          simp [h, hx, this]
        · simp [h, hx]
      · have h2 : ¬ (fIdx p l + 1 < 0) := by omega
        simp [h, h2]
theorem fIdx_map {α β : Type} (p : β → Bool) (f : α → β) : ∀ l : List α, fIdx p (l.map f) = fIdx (fun x => p (f x)) l
  | [] => rfl
  | y :: l => by
    rw [List.map_cons]
    simp only [fIdx, fIdx_map p f l]
/-- Where nothing weighs the first that matches counts. -/
theorem best_first (ks : List Int) (keys : List S40) (l : List S30) (hw : ∀ x, wtE ks x = 0) : ∀ k, k ≤ l.length → bestB ks l (hitsTo ks keys l k) = (fIdx (hitsE ks keys) (l.take k), 0)
  | 0, _ => rfl
  | k + 1, hk => by
    have ih := best_first ks keys l hw k (by omega)
    have ht : l.take (k + 1) = l.take k ++ [l.getD k z30] := by
      rw [List.take_add_one, List.getElem?_eq_getElem (by omega), List.getD_eq_getElem?_getD, List.getElem?_eq_getElem (by omega)]
      rfl
    rw [ht, fIdx_snoc, List.length_take, Nat.min_eq_left (by omega)]
    cases hh : hitsE ks keys (l.getD k z30) with
    | true =>
      rw [hitsTo_yes _ _ _ _ hh, bestB_snoc, ih]
      unfold stepB
      rw [hw]
      by_cases h : fIdx (hitsE ks keys) (l.take k) < 0
      · rw [if_pos (.inl h), if_pos h, if_pos rfl]
      · rw [if_neg (by simp only; omega), if_neg h]
    | false =>
      rw [hitsTo_no _ _ _ _ hh, ih]
      by_cases h : fIdx (hitsE ks keys) (l.take k) < 0
      · rw [if_pos h, if_neg (by simp)]
        rcases fIdx_spec (hitsE ks keys) z30 (l.take k) with ⟨h1, _⟩ | ⟨q, h1, _⟩
        · rw [h1]
        · omega
      · rw [if_neg h]
/-- The table's entry of a number. -/
def ex (n : Int) : S30 := ⟨[⟨⟨16, 0, n⟩, ⟨0, 0, 0⟩, 0⟩], 0, ⟨#[97]⟩, []⟩
theorem ok16 (n : Int) (h0 : 0 ≤ n) (h1 : n ≤ 65535) : okB ⟨16, 0, n⟩ = true := by
  have hm : IntKind.u64.wrap ((shl .u64 1 16) - 1) = 2 ^ 16 - 1 := by kernel_rfl
  have hb := bits_mask .u64 64 (by decide) (fun m a b => by rw [IntKind.wrap_u64]; omega) 16 (by decide) n h0 (by omega)
  unfold okB bits_Check.f bits_wide.f bits_cut.f
  simp only [hm]
  rw [hb, Int.emod_eq_of_lt h0 (by omega)]
  simp
theorem check_ex (n : Int) (h0 : 0 ≤ n) (h1 : n ≤ 65535) : checkP [1] [16] 4096 (ex n) = 0 := by
  have ht : tmayB [1] [16] 4096 = true := by kernel_rfl
  have hw : weighsB [1] = false := by kernel_rfl
  have hk : keyB 1 16 ⟨⟨16, 0, n⟩, ⟨0, 0, 0⟩, 0⟩ = true := by
    unfold keyB
    rw [ok16 n h0 h1]
    unfold mayB bareB
    simp
  have hks : keysB [1] [16] (ex n).f0 = true := (keysB_iff _ _ _).2 (fun j hj => by
    have : j = 0 := by simp [ex] at hj; omega
    subst this
    exact hk)
  unfold checkP checkB
  rw [ht, hks, hw]
  simp [ex, prioB]
theorem one_ex (n v : Int) : oneB (ex n) (ex v) = (v == n) := by
  unfold oneB ex
  simp only [sameM, eqMB]
  simp
/-- The place of a number. -/
def idx (n : Int) (vs : List Int) : Int := fIdx (fun v => v == n) vs
theorem place_ex (vs : List Int) (n : Int) : placeE (vs.map ex) (ex n) = idx n vs := by
  unfold placeE idx
  rw [fIdx_map]
  congr 1
  funext v
  exact one_ex n v
theorem idx_mem (n : Int) (vs : List Int) : 0 ≤ idx n vs ↔ n ∈ vs := by
  have := fIdx_any (fun v => v == n) vs
  unfold idx
  constructor
  · intro h
    have h2 : vs.any (fun v => v == n) = true := by rw [← this]; exact decide_eq_true h
    simpa using h2
  · intro h
    have h2 : vs.any (fun v => v == n) = true := by simpa using h
    rw [← this] at h2
    exact of_decide_eq_true h2
/-- Numbers, each once. -/
def addTo (vs : List Int) (n : Int) : List Int := if n ∈ vs then vs else vs ++ [n]
def uq (l : List Int) : List Int := l.foldl addTo []
theorem uq_snoc (l : List Int) (n : Int) : uq (l ++ [n]) = addTo (uq l) n := by
  unfold uq
  rw [List.foldl_append]
  rfl
theorem uq_len : ∀ (l vs : List Int), (l.foldl addTo vs).length ≤ vs.length + l.length
  | [], vs => by simp
  | n :: l, vs => by
    rw [List.foldl_cons]
    have := uq_len l (addTo vs n)
    have h2 : (addTo vs n).length ≤ vs.length + 1 := by
      unfold addTo
      split
      · omega
      · simp
    simp only [List.length_cons]
    omega
theorem uq_mem : ∀ (l vs : List Int) (n : Int), n ∈ l.foldl addTo vs ↔ n ∈ vs ∨ n ∈ l
  | [], vs, n => by simp
  | m :: l, vs, n => by
    rw [List.foldl_cons, uq_mem l (addTo vs m) n]
    have : n ∈ addTo vs m ↔ n ∈ vs ∨ n = m := by
      unfold addTo
      split
      · constructor
        · exact .inl
        · rintro (h | h)
          · exact h
          · rw [h]; assumption
      · simp
    rw [this, List.mem_cons, or_assoc]
theorem ins_ex (vs : List Int) (n : Int) (h0 : 0 ≤ n) (h1 : n ≤ 65535) (hl : vs.length < 4096) : insP [1] [16] 4096 (vs.map ex) (ex n) = if n ∈ vs then ([], 12) else (vs.map ex ++ [ex n], 0) := by
  unfold insP
  rw [if_pos (check_ex n h0 h1), place_ex]
  by_cases h : n ∈ vs
  · rw [if_pos h, if_pos ((idx_mem n vs).2 h)]
  · rw [if_neg h, if_neg (fun hh => h ((idx_mem n vs).1 hh)), if_neg (by rw [List.length_map]; omega)]
theorem idx_add (vs : List Int) (n key : Int) (h : n ∉ vs) : idx key (vs ++ [n]) = if n = key then (vs.length : Int) else idx key vs := by
  unfold idx
  rw [fIdx_snoc]
  by_cases hk : n = key
  · subst hk
    have hn : fIdx (fun v => v == n) vs < 0 := by
      rcases Int.lt_or_le (fIdx (fun v => v == n) vs) 0 with h2 | h2
      · exact h2
      · exact absurd ((idx_mem n vs).1 h2) h
    simp [hn]
  · have h3 : (n == key) = false := by simpa using hk
    rw [if_neg hk]
    by_cases h2 : fIdx (fun v => v == key) vs < 0
    · rw [if_pos h2, if_neg (by simp [h3])]
      rcases fIdx_spec (fun v => v == key) 0 vs with ⟨h4, _⟩ | ⟨q, h4, _⟩
      · rw [h4]
      · omega
    · rw [if_neg h2]
theorem hits_ex (v key : Int) : hitsE [1] [⟨16, 0, key⟩] (ex v) = (v == key) := by
  unfold hitsE ex
  simp only [List.length_cons, List.length_nil]
  rw [show List.range (0 + 1) = [0] from rfl]
  simp [hitsB, eqB]
theorem find_ex (vs : List Int) (key : Int) (h0 : 0 ≤ key) (h1 : key ≤ 65535) : findP [1] [16] 4096 (vs.map ex) [⟨16, 0, key⟩] = idx key vs := by
  have ht : tmayB [1] [16] 4096 = true := by kernel_rfl
  have hw : weighsB [1] = false := by kernel_rfl
  have hp : kIdx [1] 2 = -1 := by kernel_rfl
  have hf : fitsB [⟨16, 0, key⟩] [16] = true := (fitsB_iff _ _).2 ⟨rfl, fun j hj => by
    have : j = 0 := by simp at hj; omega
    subst this
    show fit1 ⟨16, 0, key⟩ 16 = true
    unfold fit1
    rw [ok16 key h0 h1]
    rfl⟩
  unfold findP
  rw [ht, hf, Bool.true_and, if_pos rfl, best_first [1] _ _ (fun x => by unfold wtE; rw [hw, hp]; rfl) _ (Nat.le_refl _), List.take_length]
  show fIdx _ _ = _
  rw [fIdx_map]
  unfold idx
  congr 1
  funext v
  exact hits_ex v key
end Go.Proofs.Ytdfmeclhpefmfaa.Own

/- MatchExact: the walk. -/
set_option linter.unusedVariables false
set_option linter.unusedSimpArgs false
set_option maxRecDepth 100000
namespace Go.Proofs.Ytdfmeclhpefmfaa.Own
open Go.RowKit Go.Proofs.Ytdfmeclhpefmfaa.K YtdfmeclhpefmfaaW.PrintWords YtdfmeclhpefmfaaW.PrintLast YtdfmeclhpefmfaaW.PrintMore

theorem C_match1 {w : World} {g : Nat} {m : S42} (h : w.heap[g]? = some (.cells #[.int .i64 m.f0.f0, .int .u64 m.f0.f1, .int .u64 m.f0.f2, .int .i64 m.f1.f0, .int .u64 m.f1.f1, .int .u64 m.f1.f2, .int .i64 m.f2] 42 (0,0))) : Kd.C k42 w (some ⟨g, 0, none⟩) 1 [m] :=
  C_of_flat k42 mL (by decide) (fun _ => rfl) z42 (fun x => k42_mk w x) (by simp) (fun _ => ⟨_, rfl, fun j u hu => by rw [Own.add_plain, cellOf h j]; simpa [mL] using hu⟩)
theorem C_of_reads {w : World} {k : IntKind} {A : Option Addr} {xs : List Int} (h : Reads w k A xs.length xs) : Kd.C (Kd.int k) w A xs.length xs := by
  refine ⟨rfl, h.2.1, fun hn => ?_⟩
  obtain ⟨ad, e, hc⟩ := h.2.2 hn
  refine ⟨ad, e, fun j p hj => ⟨[.int k p], rfl, rfl, fun i u hu => ?_⟩⟩
  have hjl : j < xs.length := (List.getElem?_eq_some_iff.1 hj).1
  have hp : xs.getD j 0 = p := by rw [List.getD_eq_getElem?_getD, hj]; rfl
  match i, hu with
  | 0, hu =>
    injection hu with hu
    subst hu
    have := hc j hjl
    rw [hp] at this
    have e1 : (Kd.int k).sz = 1 := rfl
    rw [e1, Nat.mul_one, Nat.add_zero]
    exact this
theorem C_nilB (w : World) : Kd.C k40 w none 0 [] := ⟨rfl, by simp, fun h => by simp at h⟩
theorem C_nilE (w : World) : Kd.C k30 w none 0 [] := ⟨rfl, by simp, fun h => by simp at h⟩
/-- The table of one exact key. -/
structure TabIs (kd wd : Int) (g : Nat) (W : World) : Prop where
  tab : TabAt W (some ⟨g, 0, none⟩) 1 [kd] (some ⟨g + 1, 0, none⟩) 1 [wd]
  box : W.heap[g + 1 + 1]? = some (.cells #[.slice (some ⟨g, 0, none⟩) 1 1, .slice (some ⟨g + 1, 0, none⟩) 1 1, .int .i64 4096] 25 (0,0))
theorem TabIs.next {kd wd : Int} {g : Nat} {W W' : World} (h : TabIs kd wd g W) (hb : Below W.heap.size W W') : TabIs kd wd g W' :=
  ⟨h.tab.below hb, (hb.block _ (Array.getElem?_eq_some_iff.1 h.box).1).trans h.box⟩
theorem TabIs.mk3 (kd wd : Int) (w : World) : TabIs kd wd w.heap.size (((w.alloc (.cells #[.int .u8 kd] 47 (0,0))).alloc (.cells #[.int .i64 wd] 3 (0,0))).alloc (.cells #[.slice (some ⟨w.heap.size, 0, none⟩) 1 1, .slice (some ⟨w.heap.size + 1, 0, none⟩) 1 1, .int .i64 4096] 25 (0,0))) := by
  refine ⟨⟨ints_C [kd] (Blk.two (heap_alloc_new w _) _ _) (by simp), by simp, ints_C [wd] (Blk.one (heap_new_at (by simp) _) _) (by simp), by simp⟩, heap_new_at (by simp) _⟩
theorem small_ex (vs : List Int) (h : vs.length ≤ 300) : small (vs.map ex) := ⟨by rw [List.length_map]; omega, fun x hx => by
  obtain ⟨v, _, rfl⟩ := List.mem_map.1 hx
  exact ⟨by simp [ex], by simp [ex]⟩⟩
theorem take_next (l : List Int) (k : Nat) (h : k < l.length) : l.take (k + 1) = l.take k ++ [l.getD k 0] := by
  rw [List.take_add_one, List.getElem?_eq_getElem h, List.getD_eq_getElem?_getD, List.getElem?_eq_getElem h]
  rfl
set_option maxHeartbeats 6400000 in
theorem exact_any (A : Option Addr) (c : Nat) (l : List Int) (key : Int) (w : World) (hr : Kd.C (Kd.int .u16) w A l.length l) (hc : l.length ≤ c) (hwf : ∀ j, j < l.length → 0 ≤ l.getD j 0 ∧ l.getD j 0 ≤ 65535) (hk0 : 0 ≤ key) (hk1 : key ≤ 65535) :
    Calls Try.prog 5 #[.slice A l.length c, .int .u16 key] w fun r w' => r = .returned (.bool true) ∧ Below w.heap.size w w' := by
  have hu25 := Try.underlying25
  have hu30 := Try.underlying30
  have hu40 := Try.underlying40
  have hu42 := Try.underlying42
  have HR := Aside0.mk hr
  have HWF := Aside0.mk hwf
  have hmx : l.length ≤ 9223372036854775807 := hr.2.1
  clear hr hwf
  by_cases hbig : 300 < l.length
  · have g1 : decide ((l.length : Int) > 300) = true := decide_eq_true (by omega)
    go_enter Try.func5, Try.ntmps5
    go_wp2_with fail
    refine Calls.mono (lives_any _) ?_
    rintro r w2 ⟨rfl, hb⟩
    go_wp2
    go_ret
    exact ⟨rfl, hb⟩
  · have g1 : decide ((l.length : Int) > 300) = false := decide_eq_false (by omega)
    have HT := Aside0.mk (TabIs.mk3 1 16 w)
    have hb3 := below_alloc (below_alloc (below_alloc (Below.refl w.heap.size w) (.cells #[.int .u8 1] 47 (0,0))) (.cells #[.int .i64 16] 3 (0,0))) (.cells #[.slice (some ⟨w.heap.size, 0, none⟩) 1 1, .slice (some ⟨w.heap.size + 1, 0, none⟩) 1 1, .int .i64 4096] 25 (0,0))
    have HB := Aside0.mk hb3
    obtain ⟨g, hg⟩ : ∃ g, g = w.heap.size := ⟨_, rfl⟩
    have hl300 : l.length ≤ 300 := by omega
    have HKEY := Aside0.mk (And.intro hk0 hk1)
    clear hb3 hbig
    go_enter Try.func5, Try.ntmps5
    go_wp2_with fail
    generalize hV : ((w.alloc (.cells #[.int .u8 1] 47)).alloc (.cells #[.int .i64 16] 3)).alloc (.cells #[.slice (some ⟨w.heap.size, 0, none⟩) 1 1, .slice (some ⟨w.heap.size + 1, 0, none⟩) 1 1, .int .i64 4096] 25) = V at *
    clear hV
    rw [← hg] at HT ⊢
    clear hg
    go_loopw [6, 7, 8] (fun al at_ i wr => ∃ k : Nat, k ≤ l.length ∧ i = .int .i64 k ∧ ∃ m : Nat, m = ((uq (l.take k)).map ex).length ∧ ∃ AR cR, al = .slice AR m cR ∧ at_ = .int .i64 (idx key (uq (l.take k))) ∧ Aside0 (m ≤ cR ∧ Kd.C k30 wr AR ((uq (l.take k)).map ex).length ((uq (l.take k)).map ex) ∧ Below w.heap.size w wr ∧ TabIs 1 16 g wr)) (fun _ _ i _ => l.length - (intOf i).toNat)
    case atStart => exact ⟨0, by omega, rfl, 0, rfl, none, 0, rfl, rfl, Nat.le_refl _, C_nilE _, HB.out, HT.out⟩
    case round =>
      obtain ⟨k, hk, rfl, m, hm, AR, cR, rfl, rfl, HI⟩ := hrel
      have HVL := Aside0.mk (show (uq (l.take k)).length ≤ 300 from by
        have := uq_len (l.take k) []
        have h2 : (l.take k).length ≤ 300 := by rw [List.length_take]; omega
        unfold uq
        simp only [List.length_nil] at this
        omega)
      have HMM := Aside0.mk hm
      clear hm
      by_cases hlt : k < l.length
      · have g3 : decide ((k : Int) < (l.length : Int)) = true := decide_eq_true (by omega)
        have p0 : 0 ≤ (k : Int) := by omega
        have q0 : (k : Int) < (l.length : Int) := by omega
        have HRk := Aside0.mk (Kd.C_below HR.out HI.out.2.2.1)
        obtain ⟨ad, rfl, x00⟩ := Kd.at_int HRk.out (k : Int) p0 q0
        have x0 : wr.cell? (ad.add k) = some (.int .u16 (l.getD k 0)) := x00
        clear x00
        have HTK := Aside0.mk (take_next l k hlt)
        have HVB := Aside0.mk (HWF.out k hlt)
        have HMEM := Aside0.mk (show ∀ n, n ∈ uq (l.take k) ↔ n ∈ l.take k from fun n => by have := uq_mem (l.take k) [] n; unfold uq; simpa using this)
        obtain ⟨v, hv⟩ : ∃ v, v = l.getD k 0 := ⟨_, rfl⟩
        have HVV := Aside0.mk hv.symm
        rw [← hv] at HTK HVB x0
        clear hv
        obtain ⟨vs, hvs⟩ : ∃ vs, vs = uq (l.take k) := ⟨_, rfl⟩
        rw [← hvs] at HI HVL HMM HMEM ⊢
        have HUQ := Aside0.mk (show uq (l.take (k + 1)) = addTo vs v from by rw [HTK.out, uq_snoc, ← hvs])
        clear hvs
        have hw64 : IntKind.u64.wrap v = v := by rw [IntKind.wrap_u64]; have := HVB.out; omega
        have hbx := below_alloc (below_alloc (Below.refl wr.heap.size wr) (.cells #[.int .i64 16, .int .u64 0, .int .u64 v, .int .i64 0, .int .u64 0, .int .u64 0, .int .i64 0] 42 (0,0))) (.cells #[.slice (some ⟨wr.heap.size, 0, none⟩) 1 1, .int .i64 0, .string ⟨#[97]⟩, .slice none 0 0] 30 (0,0))
        have hmc := C_match1 (m := ⟨⟨16, 0, v⟩, ⟨0, 0, 0⟩, 0⟩) (blk_box (heap_alloc_new wr (.cells #[.int .i64 16, .int .u64 0, .int .u64 v, .int .i64 0, .int .u64 0, .int .u64 0, .int .i64 0] 42 (0,0))) (.cells #[.slice (some ⟨wr.heap.size, 0, none⟩) 1 1, .int .i64 0, .string ⟨#[97]⟩, .slice none 0 0] 30 (0,0)))
        have HX := Aside0.mk (And.intro hbx hmc)
        have HT5 := Aside0.mk (HI.out.2.2.2.next hbx)
        have t0 := cellOf HT5.out.box 0
        have t1 := cellOf HT5.out.box 1
        have t2 := cellOf HT5.out.box 2
        have HINS0 := Aside0.mk (insert_any 4096 (vs.map ex) (c1 := cR) (ex v) (c0 := 1) (c3 := 0) _ HT5.out.tab hmc (Nat.le_refl _) (C_nilB _) (Nat.le_refl _) (Kd.C_below HI.out.2.1 hbx) (by rw [← HMM.out]; exact HI.out.1) (small_ex vs HVL.out) ⟨by simp [ex], by simp [ex]⟩)
        rw [ins_ex vs v HVB.out.1 HVB.out.2 (by have := HVL.out; omega), ← HMM.out] at HINS0
        by_cases hmem : v ∈ vs
        · rw [if_pos hmem] at HINS0
          have HNEXT := Aside0.mk (show uq (l.take (k + 1)) = vs from by rw [HUQ.out]; unfold addTo; rw [if_pos hmem])
          have HSEEN := Aside0.mk (show (l.take k).any (fun y => y == v) = true from by
            rw [List.any_eq_true]
            exact ⟨v, (HMEM.out v).1 hmem, by simp⟩)
          have HIDX := Aside0.mk (show idx key vs = idx key vs from rfl)
          clear hmem hbx hmc
          go_wp2_with fail
          refine Calls.mono HINS0.out ?_
          rintro r w7 ⟨v7, rfl, hA, hb⟩
          have HB5 := Aside0.mk (HI.out.2.2.1.trans (HX.out.1.mono HI.out.2.2.1.size))
          have HB7 := Aside0.mk (HB5.out.trans (hb.mono HB5.out.size))
          have HT7 := Aside0.mk (HT5.out.next hb)
          have HR7 := Aside0.mk (Kd.C_below HR.out HB7.out)
          have HA7 := Aside0.mk (Kd.C_below (Kd.C_below HI.out.2.1 HX.out.1) hb)
          obtain ⟨A2, c2, rfl, _, _⟩ := hA.reads
          clear hA hb HINS0 t0 t1 t2 x0 hw64
          go_wp2_with fail
          go_loopw [12, 13] (fun sn j wr => ∃ t : Nat, t ≤ k ∧ j = .int .i64 t ∧ sn = .bool ((l.take t).any (fun y => y == v)) ∧ Aside0 (Below w7.heap.size w7 wr)) (fun _ j _ => k - (intOf j).toNat)
          case atStart => exact ⟨0, by omega, rfl, rfl, ⟨Below.refl _ _⟩⟩
          case round =>
            obtain ⟨t, ht, rfl, rfl, HI2⟩ := hrel
            by_cases htk : t < k
            · have g4 : decide ((t : Int) < (k : Int)) = true := decide_eq_true (by omega)
              have t0 : (0 : Int) ≤ (t : Int) := by omega
              have t1 : (t : Int) < (l.length : Int) := by omega
              have hCw := Kd.C_below HR7.out HI2.out
              obtain ⟨ad', e1, y0⟩ := Kd.at_int hCw (t : Int) t0 t1
              obtain ⟨ad'', e2, z0⟩ := Kd.at_int hCw (k : Int) p0 q0
              injection e1 with e1
              injection e2 with e2
              subst e1
              subst e2
              have y1 : wr.cell? (ad.add t) = some (.int .u16 (l.getD t 0)) := y0
              have z1 : wr.cell? (ad.add k) = some (.int .u16 v) := by rw [← HVV.out]; exact z0
              have HTN := Aside0.mk (take_next l t (by omega))
              clear hCw y0 z0
              generalize l.getD t 0 = u at *
              cases hs : (l.take t).any (fun y => y == v) with
              | true =>
                have HS := Aside0.mk hs
                clear hs
                go_wp2_with fail
                go_quiet (fail)
                go_wp2
                go_roundw
                case rel => exact ⟨t + 1, by omega, by go_num, by rw [HTN.out, List.any_append, HS.out]; rfl, ⟨HI2.out.trans (pw_below_drewN (Below.refl _ _) _)⟩⟩
                case measure => (simp [intOf]; omega)
              | false =>
                have HS := Aside0.mk hs
                clear hs
                go_wp2_with fail
                go_quiet (fail)
                go_wp2
                go_roundw
                case rel => exact ⟨t + 1, by omega, by go_num, by rw [HTN.out, List.any_append, HS.out]; simp, ⟨HI2.out.trans (pw_below_drewN (Below.refl _ _) _)⟩⟩
                case measure => (simp [intOf]; omega)
            · have htn : t = k := by omega
              have g4 : decide ((t : Int) < (k : Int)) = false := decide_eq_false (by omega)
              have HSN := Aside0.mk (show (l.take t).any (fun y => y == v) = true from by rw [htn]; exact HSEEN.out)
              have HB8 := Aside0.mk (show Below w.heap.size w wr from HB7.out.trans (HI2.out.mono HB7.out.size))
              have HT8 := Aside0.mk (HT7.out.next HI2.out)
              have HR8 := Aside0.mk (Kd.C_below HR7.out HI2.out)
              have HA8 := Aside0.mk (Kd.C_below HA7.out HI2.out)
              clear htn
              rw [HSN.out]
              go_wp2
              go_roundw
              case rel =>
                refine ⟨k + 1, by omega, by go_num, m, by rw [HNEXT.out]; exact HMM.out, AR, cR, rfl, by rw [HNEXT.out], ?_⟩
                rw [HNEXT.out]
                exact ⟨HI.out.1, HA8.out, HB8.out, HT8.out⟩
              case measure => (simp [intOf]; omega)
        · rw [if_neg hmem] at HINS0
          have HNEXT := Aside0.mk (show uq (l.take (k + 1)) = vs ++ [v] from by rw [HUQ.out]; unfold addTo; rw [if_neg hmem])
          have HSEEN := Aside0.mk (show (l.take k).any (fun y => y == v) = false from by
            cases hs : (l.take k).any (fun y => y == v) with
            | false => rfl
            | true =>
              rw [List.any_eq_true] at hs
              obtain ⟨y, hy, he⟩ := hs
              have : y = v := by simpa using he
              rw [this] at hy
              exact absurd ((HMEM.out v).2 hy) hmem)
          have HIDX := Aside0.mk (idx_add vs v key hmem)
          clear hmem hbx hmc
          go_wp2_with fail
          refine Calls.mono HINS0.out ?_
          rintro r w7 ⟨v7, rfl, hA, hb⟩
          have HB5 := Aside0.mk (HI.out.2.2.1.trans (HX.out.1.mono HI.out.2.2.1.size))
          have HB7 := Aside0.mk (HB5.out.trans (hb.mono HB5.out.size))
          have HT7 := Aside0.mk (HT5.out.next hb)
          have HR7 := Aside0.mk (Kd.C_below HR.out HB7.out)
          obtain ⟨A2, c2, rfl, hc2, hr2⟩ := hA.reads
          have HL2 := Aside0.mk (show (vs.map ex ++ [ex v]).length = ((vs ++ [v]).map ex).length from by simp)
          have HC2 := Aside0.mk (show ((vs ++ [v]).map ex).length ≤ c2 from by rw [← HL2.out]; exact hc2)
          have HA7 := Aside0.mk (show Kd.C k30 w7 A2 ((vs ++ [v]).map ex).length ((vs ++ [v]).map ex) from by rw [List.map_append]; exact hr2)
          clear hA hb HINS0 hc2 hr2 t0 t1 t2 x0 hw64
          go_wp2_with fail
          go_loopw [12, 13] (fun sn j wr => ∃ t : Nat, t ≤ k ∧ j = .int .i64 t ∧ sn = .bool ((l.take t).any (fun y => y == v)) ∧ Aside0 (Below w7.heap.size w7 wr)) (fun _ j _ => k - (intOf j).toNat)
          case atStart => exact ⟨0, by omega, rfl, rfl, ⟨Below.refl _ _⟩⟩
          case round =>
            obtain ⟨t, ht, rfl, rfl, HI2⟩ := hrel
            by_cases htk : t < k
            · have g4 : decide ((t : Int) < (k : Int)) = true := decide_eq_true (by omega)
              have t0 : (0 : Int) ≤ (t : Int) := by omega
              have t1 : (t : Int) < (l.length : Int) := by omega
              have hCw := Kd.C_below HR7.out HI2.out
              obtain ⟨ad', e1, y0⟩ := Kd.at_int hCw (t : Int) t0 t1
              obtain ⟨ad'', e2, z0⟩ := Kd.at_int hCw (k : Int) p0 q0
              injection e1 with e1
              injection e2 with e2
              subst e1
              subst e2
              have y1 : wr.cell? (ad.add t) = some (.int .u16 (l.getD t 0)) := y0
              have z1 : wr.cell? (ad.add k) = some (.int .u16 v) := by rw [← HVV.out]; exact z0
              have HTN := Aside0.mk (take_next l t (by omega))
              clear hCw y0 z0
              generalize l.getD t 0 = u at *
              cases hs : (l.take t).any (fun y => y == v) with
              | true =>
                have HS := Aside0.mk hs
                clear hs
                go_wp2_with fail
                go_quiet (fail)
                go_wp2
                go_roundw
                case rel => exact ⟨t + 1, by omega, by go_num, by rw [HTN.out, List.any_append, HS.out]; rfl, ⟨HI2.out.trans (pw_below_drewN (Below.refl _ _) _)⟩⟩
                case measure => (simp [intOf]; omega)
              | false =>
                have HS := Aside0.mk hs
                clear hs
                go_wp2_with fail
                go_quiet (fail)
                go_wp2
                go_roundw
                case rel => exact ⟨t + 1, by omega, by go_num, by rw [HTN.out, List.any_append, HS.out]; simp, ⟨HI2.out.trans (pw_below_drewN (Below.refl _ _) _)⟩⟩
                case measure => (simp [intOf]; omega)
            · have htn : t = k := by omega
              have g4 : decide ((t : Int) < (k : Int)) = false := decide_eq_false (by omega)
              have HSN := Aside0.mk (show (l.take t).any (fun y => y == v) = false from by rw [htn]; exact HSEEN.out)
              have HB8 := Aside0.mk (show Below w.heap.size w wr from HB7.out.trans (HI2.out.mono HB7.out.size))
              have HT8 := Aside0.mk (HT7.out.next HI2.out)
              have HR8 := Aside0.mk (Kd.C_below HR7.out HI2.out)
              have HA8 := Aside0.mk (Kd.C_below HA7.out HI2.out)
              obtain ⟨ad', e1, z0⟩ := Kd.at_int HR8.out (k : Int) p0 q0
              injection e1 with e1
              subst e1
              have z1 : wr.cell? (ad.add k) = some (.int .u16 v) := by rw [← HVV.out]; exact z0
              clear htn z0
              rw [HSN.out]
              by_cases hvk : v = key
              · have b1 : (v == key) = true := by simpa using hvk
                have HIX := Aside0.mk (HIDX.out)
                rw [if_pos hvk] at HIX
                clear hvk
                go_wp2
                go_roundw
                case rel =>
                  refine ⟨k + 1, by omega, by go_num, _, ?_, A2, c2, rfl, by rw [HNEXT.out, HIX.out, HMM.out, List.length_map], ?_⟩
                  · rw [HNEXT.out]
                    simp
                  · rw [HNEXT.out]
                    exact ⟨by have := HC2.out; simpa using this, HA8.out, HB8.out, HT8.out⟩
                case measure => (simp [intOf]; omega)
              · have b1 : (v == key) = false := by simpa using hvk
                have HIX := Aside0.mk (HIDX.out)
                rw [if_neg hvk] at HIX
                clear hvk
                go_wp2
                go_roundw
                case rel =>
                  refine ⟨k + 1, by omega, by go_num, _, ?_, A2, c2, rfl, by rw [HNEXT.out, HIX.out], ?_⟩
                  · rw [HNEXT.out]
                    simp
                  · rw [HNEXT.out]
                    exact ⟨by have := HC2.out; simpa using this, HA8.out, HB8.out, HT8.out⟩
                case measure => (simp [intOf]; omega)
      · have hkn : k = l.length := by omega
        have g3 : decide ((k : Int) < (l.length : Int)) = false := decide_eq_false (by omega)
        have hw64 : IntKind.u64.wrap key = key := by rw [IntKind.wrap_u64]; have := HKEY.out; omega
        rw [show l.take k = l from by rw [hkn, List.take_length]] at HI HMM HVL ⊢
        have t0 := cellOf HI.out.2.2.2.box 0
        have t1 := cellOf HI.out.2.2.2.box 1
        have t2 := cellOf HI.out.2.2.2.box 2
        have hbx := below_alloc (Below.refl wr.heap.size wr) (.cells #[.int .i64 16, .int .u64 0, .int .u64 key] 40 (0,0))
        have HBX := Aside0.mk (HI.out.2.2.1.trans (hbx.mono HI.out.2.2.1.size))
        have HFD := Aside0.mk (find_ok 4096 ((uq l).map ex) (c1 := cR) [⟨16, 0, key⟩] (kc := 1) _ (HI.out.2.2.2.next hbx).tab (Kd.C_below HI.out.2.1 hbx) (by rw [← HMM.out]; exact HI.out.1)
          (C_of_flat k40 bL (by decide) (fun _ => rfl) z40 (fun x => k40_mk _ x) (by simp) (fun _ => ⟨⟨wr.heap.size, 0, none⟩, rfl, fun j u hu => by rw [Own.add_plain, cellOf (heap_alloc_new wr (.cells #[.int .i64 16, .int .u64 0, .int .u64 key] 40 (0,0))) j]; simpa [bL] using hu⟩)) (Nat.le_refl _))
        rw [find_ex (uq l) key HKEY.out.1 HKEY.out.2, ← HMM.out] at HFD
        generalize idx key (uq l) = ix at *
        have bix : (ix == ix) = true := by simp
        clear hbx hkn
        go_wp2_with fail
        refine Calls.mono HFD.out ?_
        rintro r w6 ⟨rfl, hb⟩
        have HB6 := Aside0.mk (HBX.out.trans (hb.mono HBX.out.size))
        clear hb
        go_wp2_with fail
        refine Calls.mono (lives_any _) ?_
        rintro r w7 ⟨rfl, hb⟩
        have HB7 := Aside0.mk (HB6.out.trans (hb.mono HB6.out.size))
        clear hb
        go_wp2
        go_ret
        exact ⟨rfl, HB7.out⟩
end Go.Proofs.Ytdfmeclhpefmfaa.Own
