/-
  Apart: of disjoint lists of bytes that are the law's own it answers true.
-/
import Derived.Test.YtdgilloblfbklabGreatDoorB3O
import Derived.Test.YtdgilloblfbklabGreatDoorB3E1
import Derived.Test.YtdgilloblfbklabGreatDoorB3E2
import Derived.Test.YtdgilloblfbklabGreatDoorB3E3
set_option linter.unusedVariables false
set_option linter.unusedSimpArgs false
namespace Go.Proofs.YtdgilloblfbklabGreatDoor.Own
open Go.RowKit

theorem Fill.grow {W : World} {base : Nat} {ps : List (Value × Value)} {ns : Nat → Nat} {F : Nat → Nat → Prop} (h : Fill W base ps ns F ps.length) : Grow W base ps ns F 0 :=
  fun j p hp => ⟨fun hj => by omega, fun _ => ⟨(h j p hp).1, (h j p hp).2.1 (List.getElem?_eq_some_iff.1 hp).1⟩⟩
set_option maxRecDepth 100000 in
set_option maxHeartbeats 40000000 in
theorem apart_any (base b : Nat) (row : Value) (ps : List (Value × Value)) (ns : Nat → Nat) (F : Nat → Nat → Prop) (W : World) (h : Bk W base b row ps F) (hN : ps.length ≤ 1000000000) (hns : ∀ j, ns j ≤ 140737488355200) (h1 : Fill W base ps ns F 0) :
    Calls Tryz.prog 16 #[.pointer (some ⟨b, 0, none⟩)] W fun e w' => e = .returned (.bool true) ∧ Foot (fun q => row.ownBlock = some q ∨ ∃ i, F i q) W w' := by
  have HB := aside' h
  have HFI := aside' (fill_any base b row ps ns F W h hN (fun j => Nat.le_trans (hns j) (by decide)) h1)
  have HNS := aside' hns
  clear h h1 hns
  go_enter Tryz.func16, Tryz.ntmps16
  go_wp2_with fail
  refine Calls.mono (E_fillInt b _ (cellOf HB.out.hb 1)) ?_
  rintro e w' ⟨⟨u, rfl⟩, hw⟩
  have hw := hw.symm
  subst hw
  go_wp2_with fail
  refine Calls.mono HFI.out ?_
  rintro e W1 ⟨⟨u, rfl⟩, hb1, hf1, hft1⟩
  have HB1 := aside' hb1
  have HG := aside' (grow_any base b row ps ns F W1 hb1 hN HNS.out hf1.grow)
  have HT1 := aside' (hft1.mono (G := fun q => row.ownBlock = some q ∨ ∃ i, F i q) (fun q _ hq => .inr hq))
  clear hb1 hf1 hft1 HFI
  go_wp2_with fail
  refine Calls.mono (E_fillKind b _ (cellOf HB1.out.hb 3)) ?_
  rintro e w' ⟨⟨u, rfl⟩, hw⟩
  have hw := hw.symm
  subst hw
  go_wp2_with fail
  refine Calls.mono (E_fillText b _ (cellOf HB1.out.hb 4)) ?_
  rintro e w' ⟨⟨u, rfl⟩, hw⟩
  have hw := hw.symm
  subst hw
  go_wp2_with fail
  refine Calls.mono (E_fillBlob b _ (cellOf HB1.out.hb 5)) ?_
  rintro e w' ⟨⟨u, rfl⟩, hw⟩
  have hw := hw.symm
  subst hw
  go_wp2_with fail
  refine Calls.mono (E_fillNumber b _ (cellOf HB1.out.hb 6)) ?_
  rintro e w' ⟨⟨u, rfl⟩, hw⟩
  have hw := hw.symm
  subst hw
  go_wp2_with fail
  refine Calls.mono (E_fillWord b _ (cellOf HB1.out.hb 7)) ?_
  rintro e w' ⟨⟨u, rfl⟩, hw⟩
  have hw := hw.symm
  subst hw
  go_wp2_with fail
  refine Calls.mono (E_fillField b _ (cellOf HB1.out.hb 8)) ?_
  rintro e w' ⟨⟨u, rfl⟩, hw⟩
  have hw := hw.symm
  subst hw
  go_wp2_with fail
  refine Calls.mono (E_fillMatch b _ (cellOf HB1.out.hb 9)) ?_
  rintro e w' ⟨⟨u, rfl⟩, hw⟩
  have hw := hw.symm
  subst hw
  go_wp2_with fail
  refine Calls.mono (E_fillArr b _ (cellOf HB1.out.hb 10)) ?_
  rintro e w' ⟨⟨u, rfl⟩, hw⟩
  have hw := hw.symm
  subst hw
  go_wp2_with fail
  refine Calls.mono (E_fillCase b _ (cellOf HB1.out.hb 11)) ?_
  rintro e w' ⟨⟨u, rfl⟩, hw⟩
  have hw := hw.symm
  subst hw
  go_wp2_with fail
  refine Calls.mono (E_fillJump b _ (cellOf HB1.out.hb 12)) ?_
  rintro e w' ⟨⟨u, rfl⟩, hw⟩
  have hw := hw.symm
  subst hw
  go_wp2_with fail
  refine Calls.mono (E_fillExpr b _ (cellOf HB1.out.hb 13)) ?_
  rintro e w' ⟨⟨u, rfl⟩, hw⟩
  have hw := hw.symm
  subst hw
  go_wp2_with fail
  refine Calls.mono (E_fillStmt b _ (cellOf HB1.out.hb 14)) ?_
  rintro e w' ⟨⟨u, rfl⟩, hw⟩
  have hw := hw.symm
  subst hw
  go_wp2_with fail
  refine Calls.mono (E_fillState b _ (cellOf HB1.out.hb 15)) ?_
  rintro e w' ⟨⟨u, rfl⟩, hw⟩
  have hw := hw.symm
  subst hw
  go_wp2_with fail
  refine Calls.mono (E_fillKey b _ (cellOf HB1.out.hb 16)) ?_
  rintro e w' ⟨⟨u, rfl⟩, hw⟩
  have hw := hw.symm
  subst hw
  go_wp2_with fail
  refine Calls.mono (E_fillDecl b _ (cellOf HB1.out.hb 17)) ?_
  rintro e w' ⟨⟨u, rfl⟩, hw⟩
  have hw := hw.symm
  subst hw
  go_wp2_with fail
  refine Calls.mono (E_fillEntry b _ (cellOf HB1.out.hb 18)) ?_
  rintro e w' ⟨⟨u, rfl⟩, hw⟩
  have hw := hw.symm
  subst hw
  go_wp2_with fail
  refine Calls.mono (E_fillGroup b _ (cellOf HB1.out.hb 19)) ?_
  rintro e w' ⟨⟨u, rfl⟩, hw⟩
  have hw := hw.symm
  subst hw
  go_wp2_with fail
  refine Calls.mono (E_fillHead b _ (cellOf HB1.out.hb 20)) ?_
  rintro e w' ⟨⟨u, rfl⟩, hw⟩
  have hw := hw.symm
  subst hw
  go_wp2_with fail
  refine Calls.mono (E_fillNode b _ (cellOf HB1.out.hb 21)) ?_
  rintro e w' ⟨⟨u, rfl⟩, hw⟩
  have hw := hw.symm
  subst hw
  go_wp2_with fail
  refine Calls.mono (E_fillAct b _ (cellOf HB1.out.hb 22)) ?_
  rintro e w' ⟨⟨u, rfl⟩, hw⟩
  have hw := hw.symm
  subst hw
  go_wp2_with fail
  refine Calls.mono (E_fillTable b _ (cellOf HB1.out.hb 23)) ?_
  rintro e w' ⟨⟨u, rfl⟩, hw⟩
  have hw := hw.symm
  subst hw
  go_wp2_with fail
  refine Calls.mono (E_fillIns b _ (cellOf HB1.out.hb 24)) ?_
  rintro e w' ⟨⟨u, rfl⟩, hw⟩
  have hw := hw.symm
  subst hw
  go_wp2_with fail
  refine Calls.mono (E_fillEffect b _ (cellOf HB1.out.hb 25)) ?_
  rintro e w' ⟨⟨u, rfl⟩, hw⟩
  have hw := hw.symm
  subst hw
  go_wp2_with fail
  refine Calls.mono (E_fillUpdate b _ (cellOf HB1.out.hb 26)) ?_
  rintro e w' ⟨⟨u, rfl⟩, hw⟩
  have hw := hw.symm
  subst hw
  go_wp2_with fail
  refine Calls.mono (E_fillEvent b _ (cellOf HB1.out.hb 27)) ?_
  rintro e w' ⟨⟨u, rfl⟩, hw⟩
  have hw := hw.symm
  subst hw
  go_wp2_with fail
  refine Calls.mono (E_fillOut b _ (cellOf HB1.out.hb 28)) ?_
  rintro e w' ⟨⟨u, rfl⟩, hw⟩
  have hw := hw.symm
  subst hw
  go_wp2_with fail
  refine Calls.mono (E_fillRow b _ (cellOf HB1.out.hb 29)) ?_
  rintro e w' ⟨⟨u, rfl⟩, hw⟩
  have hw := hw.symm
  subst hw
  go_wp2_with fail
  refine Calls.mono (E_fillArray b _ (cellOf HB1.out.hb 30)) ?_
  rintro e w' ⟨⟨u, rfl⟩, hw⟩
  have hw := hw.symm
  subst hw
  go_wp2_with fail
  refine Calls.mono (E_growInt b _ (cellOf HB1.out.hb 1)) ?_
  rintro e w' ⟨⟨u, rfl⟩, hw⟩
  have hw := hw.symm
  subst hw
  go_wp2_with fail
  refine Calls.mono HG.out ?_
  rintro e W2 ⟨⟨u, rfl⟩, ps2, F2, hl2, hb2, hg2, hft2⟩
  have HB2 := aside' hb2
  have HLK := aside' (book_look base b row ps2 ns F2 W2 hb2 (by omega) HNS.out (by rw [hl2]; exact hg2))
  have HT2 := aside' (HT1.out.trans hft2 (fun q hq => .inl hq))
  clear hb2 hg2 hft2 hl2 HG HT1 HB1
  go_wp2_with fail
  refine Calls.mono (E_growKind b _ (cellOf HB2.out.hb 3)) ?_
  rintro e w' ⟨⟨u, rfl⟩, hw⟩
  have hw := hw.symm
  subst hw
  go_wp2_with fail
  refine Calls.mono (E_growText b _ (cellOf HB2.out.hb 4)) ?_
  rintro e w' ⟨⟨u, rfl⟩, hw⟩
  have hw := hw.symm
  subst hw
  go_wp2_with fail
  refine Calls.mono (E_growBlob b _ (cellOf HB2.out.hb 5)) ?_
  rintro e w' ⟨⟨u, rfl⟩, hw⟩
  have hw := hw.symm
  subst hw
  go_wp2_with fail
  refine Calls.mono (E_growNumber b _ (cellOf HB2.out.hb 6)) ?_
  rintro e w' ⟨⟨u, rfl⟩, hw⟩
  have hw := hw.symm
  subst hw
  go_wp2_with fail
  refine Calls.mono (E_growWord b _ (cellOf HB2.out.hb 7)) ?_
  rintro e w' ⟨⟨u, rfl⟩, hw⟩
  have hw := hw.symm
  subst hw
  go_wp2_with fail
  refine Calls.mono (E_growField b _ (cellOf HB2.out.hb 8)) ?_
  rintro e w' ⟨⟨u, rfl⟩, hw⟩
  have hw := hw.symm
  subst hw
  go_wp2_with fail
  refine Calls.mono (E_growMatch b _ (cellOf HB2.out.hb 9)) ?_
  rintro e w' ⟨⟨u, rfl⟩, hw⟩
  have hw := hw.symm
  subst hw
  go_wp2_with fail
  refine Calls.mono (E_growArr b _ (cellOf HB2.out.hb 10)) ?_
  rintro e w' ⟨⟨u, rfl⟩, hw⟩
  have hw := hw.symm
  subst hw
  go_wp2_with fail
  refine Calls.mono (E_growCase b _ (cellOf HB2.out.hb 11)) ?_
  rintro e w' ⟨⟨u, rfl⟩, hw⟩
  have hw := hw.symm
  subst hw
  go_wp2_with fail
  refine Calls.mono (E_growJump b _ (cellOf HB2.out.hb 12)) ?_
  rintro e w' ⟨⟨u, rfl⟩, hw⟩
  have hw := hw.symm
  subst hw
  go_wp2_with fail
  refine Calls.mono (E_growExpr b _ (cellOf HB2.out.hb 13)) ?_
  rintro e w' ⟨⟨u, rfl⟩, hw⟩
  have hw := hw.symm
  subst hw
  go_wp2_with fail
  refine Calls.mono (E_growStmt b _ (cellOf HB2.out.hb 14)) ?_
  rintro e w' ⟨⟨u, rfl⟩, hw⟩
  have hw := hw.symm
  subst hw
  go_wp2_with fail
  refine Calls.mono (E_growState b _ (cellOf HB2.out.hb 15)) ?_
  rintro e w' ⟨⟨u, rfl⟩, hw⟩
  have hw := hw.symm
  subst hw
  go_wp2_with fail
  refine Calls.mono (E_growKey b _ (cellOf HB2.out.hb 16)) ?_
  rintro e w' ⟨⟨u, rfl⟩, hw⟩
  have hw := hw.symm
  subst hw
  go_wp2_with fail
  refine Calls.mono (E_growDecl b _ (cellOf HB2.out.hb 17)) ?_
  rintro e w' ⟨⟨u, rfl⟩, hw⟩
  have hw := hw.symm
  subst hw
  go_wp2_with fail
  refine Calls.mono (E_growEntry b _ (cellOf HB2.out.hb 18)) ?_
  rintro e w' ⟨⟨u, rfl⟩, hw⟩
  have hw := hw.symm
  subst hw
  go_wp2_with fail
  refine Calls.mono (E_growGroup b _ (cellOf HB2.out.hb 19)) ?_
  rintro e w' ⟨⟨u, rfl⟩, hw⟩
  have hw := hw.symm
  subst hw
  go_wp2_with fail
  refine Calls.mono (E_growHead b _ (cellOf HB2.out.hb 20)) ?_
  rintro e w' ⟨⟨u, rfl⟩, hw⟩
  have hw := hw.symm
  subst hw
  go_wp2_with fail
  refine Calls.mono (E_growNode b _ (cellOf HB2.out.hb 21)) ?_
  rintro e w' ⟨⟨u, rfl⟩, hw⟩
  have hw := hw.symm
  subst hw
  go_wp2_with fail
  refine Calls.mono (E_growAct b _ (cellOf HB2.out.hb 22)) ?_
  rintro e w' ⟨⟨u, rfl⟩, hw⟩
  have hw := hw.symm
  subst hw
  go_wp2_with fail
  refine Calls.mono (E_growTable b _ (cellOf HB2.out.hb 23)) ?_
  rintro e w' ⟨⟨u, rfl⟩, hw⟩
  have hw := hw.symm
  subst hw
  go_wp2_with fail
  refine Calls.mono (E_growIns b _ (cellOf HB2.out.hb 24)) ?_
  rintro e w' ⟨⟨u, rfl⟩, hw⟩
  have hw := hw.symm
  subst hw
  go_wp2_with fail
  refine Calls.mono (E_growEffect b _ (cellOf HB2.out.hb 25)) ?_
  rintro e w' ⟨⟨u, rfl⟩, hw⟩
  have hw := hw.symm
  subst hw
  go_wp2_with fail
  refine Calls.mono (E_growUpdate b _ (cellOf HB2.out.hb 26)) ?_
  rintro e w' ⟨⟨u, rfl⟩, hw⟩
  have hw := hw.symm
  subst hw
  go_wp2_with fail
  refine Calls.mono (E_growEvent b _ (cellOf HB2.out.hb 27)) ?_
  rintro e w' ⟨⟨u, rfl⟩, hw⟩
  have hw := hw.symm
  subst hw
  go_wp2_with fail
  refine Calls.mono (E_growOut b _ (cellOf HB2.out.hb 28)) ?_
  rintro e w' ⟨⟨u, rfl⟩, hw⟩
  have hw := hw.symm
  subst hw
  go_wp2_with fail
  refine Calls.mono (E_growRow b _ (cellOf HB2.out.hb 29)) ?_
  rintro e w' ⟨⟨u, rfl⟩, hw⟩
  have hw := hw.symm
  subst hw
  go_wp2_with fail
  refine Calls.mono (E_growArray b _ (cellOf HB2.out.hb 30)) ?_
  rintro e w' ⟨⟨u, rfl⟩, hw⟩
  have hw := hw.symm
  subst hw
  go_wp2_with fail
  refine Calls.mono (E_lookInt b _ (cellOf HB2.out.hb 1)) ?_
  rintro e w' ⟨rfl, hw⟩
  have hw := hw.symm
  subst hw
  go_wp2_with fail
  refine Calls.mono HLK.out ?_
  rintro e W3 ⟨rfl, hft3⟩
  have HB3 := aside' (HB2.out.foot hft3 (fun h => h) (fun _ _ h => h))
  have HT3 := aside' (HT2.out.trans hft3 (fun q hq => hq.elim))
  clear hft3 HLK HT2 HB2
  go_wp2_with fail
  refine Calls.mono (E_lookKind b _ (cellOf HB3.out.hb 3)) ?_
  rintro e w' ⟨rfl, hw⟩
  have hw := hw.symm
  subst hw
  go_wp2_with fail
  refine Calls.mono (E_lookText b _ (cellOf HB3.out.hb 4)) ?_
  rintro e w' ⟨rfl, hw⟩
  have hw := hw.symm
  subst hw
  go_wp2_with fail
  refine Calls.mono (E_lookBlob b _ (cellOf HB3.out.hb 5)) ?_
  rintro e w' ⟨rfl, hw⟩
  have hw := hw.symm
  subst hw
  go_wp2_with fail
  refine Calls.mono (E_lookNumber b _ (cellOf HB3.out.hb 6)) ?_
  rintro e w' ⟨rfl, hw⟩
  have hw := hw.symm
  subst hw
  go_wp2_with fail
  refine Calls.mono (E_lookWord b _ (cellOf HB3.out.hb 7)) ?_
  rintro e w' ⟨rfl, hw⟩
  have hw := hw.symm
  subst hw
  go_wp2_with fail
  refine Calls.mono (E_lookField b _ (cellOf HB3.out.hb 8)) ?_
  rintro e w' ⟨rfl, hw⟩
  have hw := hw.symm
  subst hw
  go_wp2_with fail
  refine Calls.mono (E_lookMatch b _ (cellOf HB3.out.hb 9)) ?_
  rintro e w' ⟨rfl, hw⟩
  have hw := hw.symm
  subst hw
  go_wp2_with fail
  refine Calls.mono (E_lookArr b _ (cellOf HB3.out.hb 10)) ?_
  rintro e w' ⟨rfl, hw⟩
  have hw := hw.symm
  subst hw
  go_wp2_with fail
  refine Calls.mono (E_lookCase b _ (cellOf HB3.out.hb 11)) ?_
  rintro e w' ⟨rfl, hw⟩
  have hw := hw.symm
  subst hw
  go_wp2_with fail
  refine Calls.mono (E_lookJump b _ (cellOf HB3.out.hb 12)) ?_
  rintro e w' ⟨rfl, hw⟩
  have hw := hw.symm
  subst hw
  go_wp2_with fail
  refine Calls.mono (E_lookExpr b _ (cellOf HB3.out.hb 13)) ?_
  rintro e w' ⟨rfl, hw⟩
  have hw := hw.symm
  subst hw
  go_wp2_with fail
  refine Calls.mono (E_lookStmt b _ (cellOf HB3.out.hb 14)) ?_
  rintro e w' ⟨rfl, hw⟩
  have hw := hw.symm
  subst hw
  go_wp2_with fail
  refine Calls.mono (E_lookState b _ (cellOf HB3.out.hb 15)) ?_
  rintro e w' ⟨rfl, hw⟩
  have hw := hw.symm
  subst hw
  go_wp2_with fail
  refine Calls.mono (E_lookKey b _ (cellOf HB3.out.hb 16)) ?_
  rintro e w' ⟨rfl, hw⟩
  have hw := hw.symm
  subst hw
  go_wp2_with fail
  refine Calls.mono (E_lookDecl b _ (cellOf HB3.out.hb 17)) ?_
  rintro e w' ⟨rfl, hw⟩
  have hw := hw.symm
  subst hw
  go_wp2_with fail
  refine Calls.mono (E_lookEntry b _ (cellOf HB3.out.hb 18)) ?_
  rintro e w' ⟨rfl, hw⟩
  have hw := hw.symm
  subst hw
  go_wp2_with fail
  refine Calls.mono (E_lookGroup b _ (cellOf HB3.out.hb 19)) ?_
  rintro e w' ⟨rfl, hw⟩
  have hw := hw.symm
  subst hw
  go_wp2_with fail
  refine Calls.mono (E_lookHead b _ (cellOf HB3.out.hb 20)) ?_
  rintro e w' ⟨rfl, hw⟩
  have hw := hw.symm
  subst hw
  go_wp2_with fail
  refine Calls.mono (E_lookNode b _ (cellOf HB3.out.hb 21)) ?_
  rintro e w' ⟨rfl, hw⟩
  have hw := hw.symm
  subst hw
  go_wp2_with fail
  refine Calls.mono (E_lookAct b _ (cellOf HB3.out.hb 22)) ?_
  rintro e w' ⟨rfl, hw⟩
  have hw := hw.symm
  subst hw
  go_wp2_with fail
  refine Calls.mono (E_lookTable b _ (cellOf HB3.out.hb 23)) ?_
  rintro e w' ⟨rfl, hw⟩
  have hw := hw.symm
  subst hw
  go_wp2_with fail
  refine Calls.mono (E_lookIns b _ (cellOf HB3.out.hb 24)) ?_
  rintro e w' ⟨rfl, hw⟩
  have hw := hw.symm
  subst hw
  go_wp2_with fail
  refine Calls.mono (E_lookEffect b _ (cellOf HB3.out.hb 25)) ?_
  rintro e w' ⟨rfl, hw⟩
  have hw := hw.symm
  subst hw
  go_wp2_with fail
  refine Calls.mono (E_lookUpdate b _ (cellOf HB3.out.hb 26)) ?_
  rintro e w' ⟨rfl, hw⟩
  have hw := hw.symm
  subst hw
  go_wp2_with fail
  refine Calls.mono (E_lookEvent b _ (cellOf HB3.out.hb 27)) ?_
  rintro e w' ⟨rfl, hw⟩
  have hw := hw.symm
  subst hw
  go_wp2_with fail
  refine Calls.mono (E_lookOut b _ (cellOf HB3.out.hb 28)) ?_
  rintro e w' ⟨rfl, hw⟩
  have hw := hw.symm
  subst hw
  go_wp2_with fail
  refine Calls.mono (E_lookRow b _ (cellOf HB3.out.hb 29)) ?_
  rintro e w' ⟨rfl, hw⟩
  have hw := hw.symm
  subst hw
  go_wp2_with fail
  refine Calls.mono (E_lookArray b _ (cellOf HB3.out.hb 30)) ?_
  rintro e w' ⟨rfl, hw⟩
  have hw := hw.symm
  subst hw
  go_wp2
  go_ret
  exact ⟨rfl, HT3.out⟩
end Go.Proofs.YtdgilloblfbklabGreatDoor.Own
