/-
  Apart: of disjoint lists of bytes and of blobs that are the law's own it answers true.
-/
import Derived.Test.YtdgilloblfbklaaGreatDoorB2O
import Derived.Test.YtdgilloblfbklaaGreatDoorB2OB
import Derived.Test.YtdgilloblfbklaaGreatDoorB2E1
import Derived.Test.YtdgilloblfbklaaGreatDoorB2E2
import Derived.Test.YtdgilloblfbklaaGreatDoorB2E3
set_option linter.unusedVariables false
set_option linter.unusedSimpArgs false
namespace Go.Proofs.YtdgilloblfbklaaGreatDoor
open Go.RowKit

theorem Fill.grow {W : World} {base : Nat} {ps : List (Value × Value)} {no ns : Nat → Nat} {F : Nat → Nat → Prop} (h : Fill W base ps no ns F ps.length) : Grow W base ps no ns F 0 :=
  fun j p hp => ⟨fun hj => by omega, fun _ => ⟨(h j p hp).1, (h j p hp).2.1 (List.getElem?_eq_some_iff.1 hp).1⟩⟩
theorem FillB.grow {W : World} {base lo : Nat} {ps : List (Value × Value)} {no ns : Nat → Nat} {F : Nat → Nat → Prop} (h : FillB W base ps no ns F lo ps.length) : GrowB W base ps no ns F lo 0 :=
  fun j p hp => ⟨fun hj => by omega, fun _ => ⟨(h j p hp).1, (h j p hp).2.1 (List.getElem?_eq_some_iff.1 hp).1⟩⟩
/-- Both kinds lie apart. -/
structure Sep (row : Value) (F : Nat → Nat → Prop) (blob : Value) (F2 : Nat → Nat → Prop) : Prop where
  rr : ∀ k, row.ownBlock = some k → blob.ownBlock ≠ some k
  rf : ∀ k, row.ownBlock = some k → ∀ i, ¬ F2 i k
  fr : ∀ i k, F i k → blob.ownBlock ≠ some k
  ff : ∀ i k, F i k → ∀ j, ¬ F2 j k
/-- What Apart touches. -/
def Tch (row : Value) (F : Nat → Nat → Prop) (blob : Value) (F2 : Nat → Nat → Prop) (q : Nat) : Prop := row.ownBlock = some q ∨ blob.ownBlock = some q ∨ (∃ i, F i q) ∨ ∃ i, F2 i q
set_option maxRecDepth 100000 in
set_option maxHeartbeats 40000000 in
theorem apart2_any (base b N : Nat) (row blob : Value) (ps : List (Value × Value)) (no ns : Nat → Nat) (F : Nat → Nat → Prop) (qs : List (Value × Value)) (no2 ns2 : Nat → Nat) (F2 : Nat → Nat → Prop) (W : World)
    (h : Bk 2 79 W base b (bookCells N row blob) row ps no F) (k : Bk 5 81 W base b (bookCells N row blob) blob qs no2 F2) (hsep : Sep row F blob F2) (hN : ps.length ≤ 1000000000) (hN2 : qs.length ≤ 1000000000)
    (hns : ∀ j, ns j ≤ 140737488355200) (hns2 : ∀ j, ns2 j ≤ 1000000000000) (h1 : Fill W base ps no ns F 0) (k1 : FillB W base qs no2 ns2 F2 W.heap.size 0) :
    Calls Tryz.prog 11 #[.pointer (some ⟨b, 0, none⟩)] W fun e w' => e = .returned (.bool true) ∧ Foot (Tch row F blob F2) W w' := by
  have HB0 := aside' h
  have HS := aside' hsep
  have HNS := aside' (And.intro hns hns2)
  have HFI := aside' (fill_any base b _ row ps no ns F W h hN (fun j => Nat.le_trans (hns j) (by decide)) h1)
  have HK0 := aside' (And.intro k k1)
  have hlo1 : ∀ q, row.ownBlock = some q → q < W.heap.size := fun q hq => (own_lt' h.hr hq).2
  have hlo2 : ∀ q, blob.ownBlock = some q → q < W.heap.size := fun q hq => (own_lt' k.hr hq).2
  have hlo3 : ∀ i q, F i q → q < W.heap.size := fun i q hq => (h.fl i q hq).2.1
  have hlo4 : ∀ i q, F2 i q → q < W.heap.size := fun i q hq => (k.fl i q hq).2.1
  have HLO := aside' (And.intro hlo1 (And.intro hlo2 (And.intro hlo3 hlo4)))
  have HFB := aside' (And.intro h.rb (And.intro k.rb (And.intro (fun i (e : F i b) => (h.fl i b e).2.2.1 rfl) (fun i (e : F2 i b) => (k.fl i b e).2.2.1 rfl))))
  clear h k hsep hns hns2 h1 k1 hlo1 hlo2 hlo3 hlo4
  go_enter Tryz.func11, Tryz.ntmps11
  go_wp2_with fail
  refine Calls.mono (E_fillInt b _ (cellOf HB0.out.hb 1)) ?_
  rintro e w' ⟨⟨u, rfl⟩, hw⟩
  have hw := hw.symm
  subst hw
  go_wp2_with fail
  refine Calls.mono HFI.out ?_
  rintro e W1 ⟨⟨u, rfl⟩, hb1, hf1, hft1⟩
  have HB1 := aside' hb1
  have hk1 := HK0.out.1.foot hft1 (fun ⟨i, e⟩ => HFB.out.2.2.1 i e) (fun q hq ⟨i, e⟩ => HS.out.fr i q e hq)
  have HF1 := aside' (And.intro hf1 (And.intro hk1 hft1))
  have HFJ := aside' (fillB_any base b _ blob qs no2 ns2 F2 W.heap.size W1 hk1 hN2 (fun j => Nat.le_trans (HNS.out.2 j) (by decide)) (HK0.out.2.foot hft1 (fun j q hq ⟨i, e⟩ => HS.out.ff i q e j hq) (fun q hq ⟨i, e⟩ => by have := HLO.out.2.2.1 i q e; omega)) hft1.size)
  clear hb1 hf1 hft1 hk1 HFI HK0
  go_wp2_with fail
  refine Calls.mono (E_fillKind b _ (cellOf HB1.out.hb 3)) ?_
  rintro e w' ⟨⟨u, rfl⟩, hw⟩
  have hw := hw.symm
  subst hw
  go_wp2_with fail
  refine Calls.mono (E_fillText b _ (cellOf HB1.out.hb 4)) ?_
  rintro e w' ⟨⟨u, rfl⟩, hw⟩
  have hw := hw.symm
  subst hw
  go_wp2_with fail
  refine Calls.mono HFJ.out ?_
  rintro e W2 ⟨⟨u, rfl⟩, hb2, hf2, hft2⟩
  have hbb := HB1.out.foot hft2 (fun ⟨i, e⟩ => HFB.out.2.2.2 i e) (fun q hq ⟨i, e⟩ => HS.out.rf q hq i e)
  have HB2 := aside' hbb
  have HG := aside' (grow_any base b _ row ps no ns F W2 hbb hN HNS.out.1 (HF1.out.1.foot hft2 (fun j q hq ⟨i, e⟩ => HS.out.ff j q hq i e)).grow)
  have HF2 := aside' (And.intro hb2 (And.intro hf2 ((HF1.out.2.2.mono (G := Tch row F blob F2) (fun q _ hq => .inr (.inr (.inl hq)))).trans (hft2.mono (G := Tch row F blob F2) (fun q _ hq => .inr (.inr (.inr hq)))) (fun q hq => .inl hq))))
  clear hb2 hf2 hft2 hbb HFJ HF1 HB1
  go_wp2_with fail
  refine Calls.mono (E_fillNumber b _ (cellOf HB2.out.hb 6)) ?_
  rintro e w' ⟨⟨u, rfl⟩, hw⟩
  have hw := hw.symm
  subst hw
  go_wp2_with fail
  refine Calls.mono (E_fillWord b _ (cellOf HB2.out.hb 7)) ?_
  rintro e w' ⟨⟨u, rfl⟩, hw⟩
  have hw := hw.symm
  subst hw
  go_wp2_with fail
  refine Calls.mono (E_fillField b _ (cellOf HB2.out.hb 8)) ?_
  rintro e w' ⟨⟨u, rfl⟩, hw⟩
  have hw := hw.symm
  subst hw
  go_wp2_with fail
  refine Calls.mono (E_fillMatch b _ (cellOf HB2.out.hb 9)) ?_
  rintro e w' ⟨⟨u, rfl⟩, hw⟩
  have hw := hw.symm
  subst hw
  go_wp2_with fail
  refine Calls.mono (E_fillArr b _ (cellOf HB2.out.hb 10)) ?_
  rintro e w' ⟨⟨u, rfl⟩, hw⟩
  have hw := hw.symm
  subst hw
  go_wp2_with fail
  refine Calls.mono (E_fillCase b _ (cellOf HB2.out.hb 11)) ?_
  rintro e w' ⟨⟨u, rfl⟩, hw⟩
  have hw := hw.symm
  subst hw
  go_wp2_with fail
  refine Calls.mono (E_fillJump b _ (cellOf HB2.out.hb 12)) ?_
  rintro e w' ⟨⟨u, rfl⟩, hw⟩
  have hw := hw.symm
  subst hw
  go_wp2_with fail
  refine Calls.mono (E_fillExpr b _ (cellOf HB2.out.hb 13)) ?_
  rintro e w' ⟨⟨u, rfl⟩, hw⟩
  have hw := hw.symm
  subst hw
  go_wp2_with fail
  refine Calls.mono (E_fillStmt b _ (cellOf HB2.out.hb 14)) ?_
  rintro e w' ⟨⟨u, rfl⟩, hw⟩
  have hw := hw.symm
  subst hw
  go_wp2_with fail
  refine Calls.mono (E_fillState b _ (cellOf HB2.out.hb 15)) ?_
  rintro e w' ⟨⟨u, rfl⟩, hw⟩
  have hw := hw.symm
  subst hw
  go_wp2_with fail
  refine Calls.mono (E_fillKey b _ (cellOf HB2.out.hb 16)) ?_
  rintro e w' ⟨⟨u, rfl⟩, hw⟩
  have hw := hw.symm
  subst hw
  go_wp2_with fail
  refine Calls.mono (E_fillDecl b _ (cellOf HB2.out.hb 17)) ?_
  rintro e w' ⟨⟨u, rfl⟩, hw⟩
  have hw := hw.symm
  subst hw
  go_wp2_with fail
  refine Calls.mono (E_fillEntry b _ (cellOf HB2.out.hb 18)) ?_
  rintro e w' ⟨⟨u, rfl⟩, hw⟩
  have hw := hw.symm
  subst hw
  go_wp2_with fail
  refine Calls.mono (E_fillGroup b _ (cellOf HB2.out.hb 19)) ?_
  rintro e w' ⟨⟨u, rfl⟩, hw⟩
  have hw := hw.symm
  subst hw
  go_wp2_with fail
  refine Calls.mono (E_fillHead b _ (cellOf HB2.out.hb 20)) ?_
  rintro e w' ⟨⟨u, rfl⟩, hw⟩
  have hw := hw.symm
  subst hw
  go_wp2_with fail
  refine Calls.mono (E_fillNode b _ (cellOf HB2.out.hb 21)) ?_
  rintro e w' ⟨⟨u, rfl⟩, hw⟩
  have hw := hw.symm
  subst hw
  go_wp2_with fail
  refine Calls.mono (E_fillAct b _ (cellOf HB2.out.hb 22)) ?_
  rintro e w' ⟨⟨u, rfl⟩, hw⟩
  have hw := hw.symm
  subst hw
  go_wp2_with fail
  refine Calls.mono (E_fillTable b _ (cellOf HB2.out.hb 23)) ?_
  rintro e w' ⟨⟨u, rfl⟩, hw⟩
  have hw := hw.symm
  subst hw
  go_wp2_with fail
  refine Calls.mono (E_fillIns b _ (cellOf HB2.out.hb 24)) ?_
  rintro e w' ⟨⟨u, rfl⟩, hw⟩
  have hw := hw.symm
  subst hw
  go_wp2_with fail
  refine Calls.mono (E_fillEffect b _ (cellOf HB2.out.hb 25)) ?_
  rintro e w' ⟨⟨u, rfl⟩, hw⟩
  have hw := hw.symm
  subst hw
  go_wp2_with fail
  refine Calls.mono (E_fillUpdate b _ (cellOf HB2.out.hb 26)) ?_
  rintro e w' ⟨⟨u, rfl⟩, hw⟩
  have hw := hw.symm
  subst hw
  go_wp2_with fail
  refine Calls.mono (E_fillEvent b _ (cellOf HB2.out.hb 27)) ?_
  rintro e w' ⟨⟨u, rfl⟩, hw⟩
  have hw := hw.symm
  subst hw
  go_wp2_with fail
  refine Calls.mono (E_fillOut b _ (cellOf HB2.out.hb 28)) ?_
  rintro e w' ⟨⟨u, rfl⟩, hw⟩
  have hw := hw.symm
  subst hw
  go_wp2_with fail
  refine Calls.mono (E_fillRow b _ (cellOf HB2.out.hb 29)) ?_
  rintro e w' ⟨⟨u, rfl⟩, hw⟩
  have hw := hw.symm
  subst hw
  go_wp2_with fail
  refine Calls.mono (E_fillArray b _ (cellOf HB2.out.hb 30)) ?_
  rintro e w' ⟨⟨u, rfl⟩, hw⟩
  have hw := hw.symm
  subst hw
  go_wp2_with fail
  refine Calls.mono (E_growInt b _ (cellOf HB2.out.hb 1)) ?_
  rintro e w' ⟨⟨u, rfl⟩, hw⟩
  have hw := hw.symm
  subst hw
  go_wp2_with fail
  refine Calls.mono HG.out ?_
  rintro e W3 ⟨⟨u, rfl⟩, ps3, F3, hl3, hb3, hg3, hft3, hF3⟩
  have HB3 := aside' hb3
  have hk3 := HF2.out.1.foot hft3 (fun h => h.elim (fun e => HFB.out.1 e) (fun ⟨i, e⟩ => HFB.out.2.2.1 i e)) (fun q hq h => h.elim (fun e => HS.out.rr q e hq) (fun ⟨i, e⟩ => HS.out.fr i q e hq))
  have hs2 := HF2.out.2.2.size
  have HGJ := aside' (growB_any base b _ blob qs no2 ns2 F2 W.heap.size W3 hk3 hN2 HNS.out.2 (HF2.out.2.1.foot hft3 (fun j q hq h => h.elim (fun e => HS.out.rf q e j hq) (fun ⟨i, e⟩ => HS.out.ff i q e j hq)) (fun q hq h => h.elim (fun e => by have := HLO.out.1 q e; omega) (fun ⟨i, e⟩ => by have := HLO.out.2.2.1 i q e; omega))).grow (Nat.le_trans hs2 hft3.size) HLO.out.2.1)
  have HF3 := aside' (And.intro hg3 (And.intro (HF2.out.2.2.trans (hft3.mono (G := Tch row F blob F2) (fun q _ hq => hq.elim .inl (fun h => .inr (.inr (.inl h))))) (fun q hq => .inl hq)) (And.intro hl3 (And.intro hF3 hs2))))
  clear hb3 hg3 hft3 hk3 hl3 hF3 hs2 HG HF2 HB2
  go_wp2_with fail
  refine Calls.mono (E_growKind b _ (cellOf HB3.out.hb 3)) ?_
  rintro e w' ⟨⟨u, rfl⟩, hw⟩
  have hw := hw.symm
  subst hw
  go_wp2_with fail
  refine Calls.mono (E_growText b _ (cellOf HB3.out.hb 4)) ?_
  rintro e w' ⟨⟨u, rfl⟩, hw⟩
  have hw := hw.symm
  subst hw
  go_wp2_with fail
  refine Calls.mono HGJ.out ?_
  rintro e W4 ⟨⟨u, rfl⟩, qs4, F4, hl4, hb4, hg4, hft4, hF4⟩
  have hbb := HB3.out.foot hft4 (fun h => h.elim (fun e => HFB.out.2.1 e) (fun ⟨i, e⟩ => HFB.out.2.2.2 i e)) (fun q hq h => h.elim (fun e => HS.out.rr q hq e) (fun ⟨i, e⟩ => HS.out.rf q hq i e))
  have HB4 := aside' hbb
  have hgg := HF3.out.1.foot hft4 (fun j q hq h => by
    rcases HF3.out.2.2.2.1 j q hq with h3 | h3
    · exact h.elim (fun e => HS.out.fr j q h3 e) (fun ⟨i, e⟩ => HS.out.ff j q h3 i e)
    · have := HF3.out.2.2.2.2
      exact h.elim (fun e => by have := HLO.out.2.1 q e; omega) (fun ⟨i, e⟩ => by have := HLO.out.2.2.2 i q e; omega)) (fun j q hq => (HB3.out.fl j q hq).2.1)
  have HLK := aside' (book_look base b _ row ps3 no ns F3 W4 hbb (by have := HF3.out.2.2.1; omega) HNS.out.1 (by rw [HF3.out.2.2.1]; exact hgg))
  have HF4 := aside' (And.intro hb4 (And.intro hg4 (And.intro (HF3.out.2.1.trans (hft4.mono (G := Tch row F blob F2) (fun q _ hq => hq.elim (fun h => .inr (.inl h)) (fun h => .inr (.inr (.inr h))))) (fun q hq => .inl hq)) hl4)))
  clear hb4 hg4 hft4 hbb hgg hl4 hF4 HGJ HF3 HB3
  go_wp2_with fail
  refine Calls.mono (E_growNumber b _ (cellOf HB4.out.hb 6)) ?_
  rintro e w' ⟨⟨u, rfl⟩, hw⟩
  have hw := hw.symm
  subst hw
  go_wp2_with fail
  refine Calls.mono (E_growWord b _ (cellOf HB4.out.hb 7)) ?_
  rintro e w' ⟨⟨u, rfl⟩, hw⟩
  have hw := hw.symm
  subst hw
  go_wp2_with fail
  refine Calls.mono (E_growField b _ (cellOf HB4.out.hb 8)) ?_
  rintro e w' ⟨⟨u, rfl⟩, hw⟩
  have hw := hw.symm
  subst hw
  go_wp2_with fail
  refine Calls.mono (E_growMatch b _ (cellOf HB4.out.hb 9)) ?_
  rintro e w' ⟨⟨u, rfl⟩, hw⟩
  have hw := hw.symm
  subst hw
  go_wp2_with fail
  refine Calls.mono (E_growArr b _ (cellOf HB4.out.hb 10)) ?_
  rintro e w' ⟨⟨u, rfl⟩, hw⟩
  have hw := hw.symm
  subst hw
  go_wp2_with fail
  refine Calls.mono (E_growCase b _ (cellOf HB4.out.hb 11)) ?_
  rintro e w' ⟨⟨u, rfl⟩, hw⟩
  have hw := hw.symm
  subst hw
  go_wp2_with fail
  refine Calls.mono (E_growJump b _ (cellOf HB4.out.hb 12)) ?_
  rintro e w' ⟨⟨u, rfl⟩, hw⟩
  have hw := hw.symm
  subst hw
  go_wp2_with fail
  refine Calls.mono (E_growExpr b _ (cellOf HB4.out.hb 13)) ?_
  rintro e w' ⟨⟨u, rfl⟩, hw⟩
  have hw := hw.symm
  subst hw
  go_wp2_with fail
  refine Calls.mono (E_growStmt b _ (cellOf HB4.out.hb 14)) ?_
  rintro e w' ⟨⟨u, rfl⟩, hw⟩
  have hw := hw.symm
  subst hw
  go_wp2_with fail
  refine Calls.mono (E_growState b _ (cellOf HB4.out.hb 15)) ?_
  rintro e w' ⟨⟨u, rfl⟩, hw⟩
  have hw := hw.symm
  subst hw
  go_wp2_with fail
  refine Calls.mono (E_growKey b _ (cellOf HB4.out.hb 16)) ?_
  rintro e w' ⟨⟨u, rfl⟩, hw⟩
  have hw := hw.symm
  subst hw
  go_wp2_with fail
  refine Calls.mono (E_growDecl b _ (cellOf HB4.out.hb 17)) ?_
  rintro e w' ⟨⟨u, rfl⟩, hw⟩
  have hw := hw.symm
  subst hw
  go_wp2_with fail
  refine Calls.mono (E_growEntry b _ (cellOf HB4.out.hb 18)) ?_
  rintro e w' ⟨⟨u, rfl⟩, hw⟩
  have hw := hw.symm
  subst hw
  go_wp2_with fail
  refine Calls.mono (E_growGroup b _ (cellOf HB4.out.hb 19)) ?_
  rintro e w' ⟨⟨u, rfl⟩, hw⟩
  have hw := hw.symm
  subst hw
  go_wp2_with fail
  refine Calls.mono (E_growHead b _ (cellOf HB4.out.hb 20)) ?_
  rintro e w' ⟨⟨u, rfl⟩, hw⟩
  have hw := hw.symm
  subst hw
  go_wp2_with fail
  refine Calls.mono (E_growNode b _ (cellOf HB4.out.hb 21)) ?_
  rintro e w' ⟨⟨u, rfl⟩, hw⟩
  have hw := hw.symm
  subst hw
  go_wp2_with fail
  refine Calls.mono (E_growAct b _ (cellOf HB4.out.hb 22)) ?_
  rintro e w' ⟨⟨u, rfl⟩, hw⟩
  have hw := hw.symm
  subst hw
  go_wp2_with fail
  refine Calls.mono (E_growTable b _ (cellOf HB4.out.hb 23)) ?_
  rintro e w' ⟨⟨u, rfl⟩, hw⟩
  have hw := hw.symm
  subst hw
  go_wp2_with fail
  refine Calls.mono (E_growIns b _ (cellOf HB4.out.hb 24)) ?_
  rintro e w' ⟨⟨u, rfl⟩, hw⟩
  have hw := hw.symm
  subst hw
  go_wp2_with fail
  refine Calls.mono (E_growEffect b _ (cellOf HB4.out.hb 25)) ?_
  rintro e w' ⟨⟨u, rfl⟩, hw⟩
  have hw := hw.symm
  subst hw
  go_wp2_with fail
  refine Calls.mono (E_growUpdate b _ (cellOf HB4.out.hb 26)) ?_
  rintro e w' ⟨⟨u, rfl⟩, hw⟩
  have hw := hw.symm
  subst hw
  go_wp2_with fail
  refine Calls.mono (E_growEvent b _ (cellOf HB4.out.hb 27)) ?_
  rintro e w' ⟨⟨u, rfl⟩, hw⟩
  have hw := hw.symm
  subst hw
  go_wp2_with fail
  refine Calls.mono (E_growOut b _ (cellOf HB4.out.hb 28)) ?_
  rintro e w' ⟨⟨u, rfl⟩, hw⟩
  have hw := hw.symm
  subst hw
  go_wp2_with fail
  refine Calls.mono (E_growRow b _ (cellOf HB4.out.hb 29)) ?_
  rintro e w' ⟨⟨u, rfl⟩, hw⟩
  have hw := hw.symm
  subst hw
  go_wp2_with fail
  refine Calls.mono (E_growArray b _ (cellOf HB4.out.hb 30)) ?_
  rintro e w' ⟨⟨u, rfl⟩, hw⟩
  have hw := hw.symm
  subst hw
  go_wp2_with fail
  refine Calls.mono (E_lookInt b _ (cellOf HB4.out.hb 1)) ?_
  rintro e w' ⟨rfl, hw⟩
  have hw := hw.symm
  subst hw
  go_wp2_with fail
  refine Calls.mono HLK.out ?_
  rintro e W5 ⟨rfl, hft5⟩
  have hk5 := HF4.out.1.foot hft5 (fun h => h) (fun _ _ h => h)
  have HB5 := aside' hk5
  have HLJ := aside' (book_lookB base b _ blob qs4 no2 ns2 F4 W.heap.size W5 hk5 (by have := HF4.out.2.2.2; omega) HNS.out.2 (by rw [HF4.out.2.2.2]; exact HF4.out.2.1.foot hft5 (fun _ _ _ h => h) (fun _ _ h => h) (fun j q hq => (HF4.out.1.fl j q hq).2.1)))
  have HF5 := aside' (HF4.out.2.2.1.trans hft5 (fun q hq => hq.elim))
  clear hft5 hk5 HLK HF4 HB4
  go_wp2_with fail
  refine Calls.mono (E_lookKind b _ (cellOf HB5.out.hb 3)) ?_
  rintro e w' ⟨rfl, hw⟩
  have hw := hw.symm
  subst hw
  go_wp2_with fail
  refine Calls.mono (E_lookText b _ (cellOf HB5.out.hb 4)) ?_
  rintro e w' ⟨rfl, hw⟩
  have hw := hw.symm
  subst hw
  go_wp2_with fail
  refine Calls.mono HLJ.out ?_
  rintro e W6 ⟨rfl, hft6⟩
  have HB6 := aside' (HB5.out.foot hft6 (fun h => h) (fun _ _ h => h))
  have HF6 := aside' (HF5.out.trans hft6 (fun q hq => hq.elim))
  clear hft6 HLJ HF5 HB5
  go_wp2_with fail
  refine Calls.mono (E_lookNumber b _ (cellOf HB6.out.hb 6)) ?_
  rintro e w' ⟨rfl, hw⟩
  have hw := hw.symm
  subst hw
  go_wp2_with fail
  refine Calls.mono (E_lookWord b _ (cellOf HB6.out.hb 7)) ?_
  rintro e w' ⟨rfl, hw⟩
  have hw := hw.symm
  subst hw
  go_wp2_with fail
  refine Calls.mono (E_lookField b _ (cellOf HB6.out.hb 8)) ?_
  rintro e w' ⟨rfl, hw⟩
  have hw := hw.symm
  subst hw
  go_wp2_with fail
  refine Calls.mono (E_lookMatch b _ (cellOf HB6.out.hb 9)) ?_
  rintro e w' ⟨rfl, hw⟩
  have hw := hw.symm
  subst hw
  go_wp2_with fail
  refine Calls.mono (E_lookArr b _ (cellOf HB6.out.hb 10)) ?_
  rintro e w' ⟨rfl, hw⟩
  have hw := hw.symm
  subst hw
  go_wp2_with fail
  refine Calls.mono (E_lookCase b _ (cellOf HB6.out.hb 11)) ?_
  rintro e w' ⟨rfl, hw⟩
  have hw := hw.symm
  subst hw
  go_wp2_with fail
  refine Calls.mono (E_lookJump b _ (cellOf HB6.out.hb 12)) ?_
  rintro e w' ⟨rfl, hw⟩
  have hw := hw.symm
  subst hw
  go_wp2_with fail
  refine Calls.mono (E_lookExpr b _ (cellOf HB6.out.hb 13)) ?_
  rintro e w' ⟨rfl, hw⟩
  have hw := hw.symm
  subst hw
  go_wp2_with fail
  refine Calls.mono (E_lookStmt b _ (cellOf HB6.out.hb 14)) ?_
  rintro e w' ⟨rfl, hw⟩
  have hw := hw.symm
  subst hw
  go_wp2_with fail
  refine Calls.mono (E_lookState b _ (cellOf HB6.out.hb 15)) ?_
  rintro e w' ⟨rfl, hw⟩
  have hw := hw.symm
  subst hw
  go_wp2_with fail
  refine Calls.mono (E_lookKey b _ (cellOf HB6.out.hb 16)) ?_
  rintro e w' ⟨rfl, hw⟩
  have hw := hw.symm
  subst hw
  go_wp2_with fail
  refine Calls.mono (E_lookDecl b _ (cellOf HB6.out.hb 17)) ?_
  rintro e w' ⟨rfl, hw⟩
  have hw := hw.symm
  subst hw
  go_wp2_with fail
  refine Calls.mono (E_lookEntry b _ (cellOf HB6.out.hb 18)) ?_
  rintro e w' ⟨rfl, hw⟩
  have hw := hw.symm
  subst hw
  go_wp2_with fail
  refine Calls.mono (E_lookGroup b _ (cellOf HB6.out.hb 19)) ?_
  rintro e w' ⟨rfl, hw⟩
  have hw := hw.symm
  subst hw
  go_wp2_with fail
  refine Calls.mono (E_lookHead b _ (cellOf HB6.out.hb 20)) ?_
  rintro e w' ⟨rfl, hw⟩
  have hw := hw.symm
  subst hw
  go_wp2_with fail
  refine Calls.mono (E_lookNode b _ (cellOf HB6.out.hb 21)) ?_
  rintro e w' ⟨rfl, hw⟩
  have hw := hw.symm
  subst hw
  go_wp2_with fail
  refine Calls.mono (E_lookAct b _ (cellOf HB6.out.hb 22)) ?_
  rintro e w' ⟨rfl, hw⟩
  have hw := hw.symm
  subst hw
  go_wp2_with fail
  refine Calls.mono (E_lookTable b _ (cellOf HB6.out.hb 23)) ?_
  rintro e w' ⟨rfl, hw⟩
  have hw := hw.symm
  subst hw
  go_wp2_with fail
  refine Calls.mono (E_lookIns b _ (cellOf HB6.out.hb 24)) ?_
  rintro e w' ⟨rfl, hw⟩
  have hw := hw.symm
  subst hw
  go_wp2_with fail
  refine Calls.mono (E_lookEffect b _ (cellOf HB6.out.hb 25)) ?_
  rintro e w' ⟨rfl, hw⟩
  have hw := hw.symm
  subst hw
  go_wp2_with fail
  refine Calls.mono (E_lookUpdate b _ (cellOf HB6.out.hb 26)) ?_
  rintro e w' ⟨rfl, hw⟩
  have hw := hw.symm
  subst hw
  go_wp2_with fail
  refine Calls.mono (E_lookEvent b _ (cellOf HB6.out.hb 27)) ?_
  rintro e w' ⟨rfl, hw⟩
  have hw := hw.symm
  subst hw
  go_wp2_with fail
  refine Calls.mono (E_lookOut b _ (cellOf HB6.out.hb 28)) ?_
  rintro e w' ⟨rfl, hw⟩
  have hw := hw.symm
  subst hw
  go_wp2_with fail
  refine Calls.mono (E_lookRow b _ (cellOf HB6.out.hb 29)) ?_
  rintro e w' ⟨rfl, hw⟩
  have hw := hw.symm
  subst hw
  go_wp2_with fail
  refine Calls.mono (E_lookArray b _ (cellOf HB6.out.hb 30)) ?_
  rintro e w' ⟨rfl, hw⟩
  have hw := hw.symm
  subst hw
  go_wp2
  go_ret
  exact ⟨rfl, HF6.out⟩
end Go.Proofs.YtdgilloblfbklaaGreatDoor
