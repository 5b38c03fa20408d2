/-
  DERIVED. GIVEN WITH THE SEED: THE CARDS: each row of YtoihcopggdmocaaGreatDoorRows.lean that lists a variable, with what it lists TIED to the program's text (the seventh form; the later family's looks); each row that meets fmt, with fmt's text TOLD by the authors' own Lean function (tested against real Go, not proved from fmt's source: count such statements apart). THE CARD IS WHAT COUNTS. Prove the row's statement (the work); the ties are given (YtoihcopggdmocaaGreatDoorTie.lean); close each card by the builder's one call (the guide's Derived/Test/ToyasCard.lean, 'card_holds'). Laid BY PROGRAM, IN A SANDBOX (cutbox-door.mjs). By AI agents, Wed Nov 11 2026. No macro, syntax, notation, axiom, sorry.
-/
import Derived.Test.YtoihcopggdmocaaGreatDoorRows
import GoSem.ClaimSeven
namespace Go.Proofs.YtoihcopggdmocaaGreatDoor
namespace Rows

/-- THE TIED CARD OF 'pointsmanlaw05.JournalFrames'. -/
def journalFramesCard : Claim7 := { stood := { row := journalFramesRow, standIns := [], harness := (true, "d636766948c78ec35df6532bdba7599b87a7b8c244f12853bff63b664e192051"), looks := false }, kinds := [], alts := [], laidByText := true, laidKinds := [.data, .data, .data], laidTests := true, laidLooks := .later }
def JournalFramesCardSaid : Prop := Claim7.holds Tryz.pinned (.plain (OpenSpec.ofChange journalFramesSpec)) journalFramesCard

/-- THE SECOND FORM's CARD OF 'pointsmanlaw05.JournalFrames'. -/
def journalFramesUptoCard : Claim7 := { stood := { row := journalFramesUptoRow, standIns := [], harness := (true, "d636766948c78ec35df6532bdba7599b87a7b8c244f12853bff63b664e192051"), looks := false }, kinds := [], alts := [], laidByText := true, laidKinds := [.data, .data, .data], laidTests := true, laidLooks := .later }
def JournalFramesUptoCardSaid : Prop := Claim7.holds Tryz.pinned (.plain (OpenSpec.upto journalFramesSpec)) journalFramesUptoCard
end Rows
end Go.Proofs.YtoihcopggdmocaaGreatDoor
