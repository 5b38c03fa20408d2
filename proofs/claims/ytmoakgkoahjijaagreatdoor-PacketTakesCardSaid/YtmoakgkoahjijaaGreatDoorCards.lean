/-
  DERIVED. GIVEN WITH THE SEED: THE CARDS: each row of YtmoakgkoahjijaaGreatDoorRows.lean that lists a variable, with what it lists TIED to the program's text (the seventh form; the later family's looks); each row that meets fmt, with fmt's text TOLD by the authors' own Lean function (tested against real Go, not proved from fmt's source: count such statements apart). THE CARD IS WHAT COUNTS. Prove the row's statement (the work); the ties are given (YtmoakgkoahjijaaGreatDoorTie.lean); close each card by the builder's one call (the guide's Derived/Test/ToyasCard.lean, 'card_holds'). Laid BY PROGRAM, IN A SANDBOX (cutbox-door.mjs). By AI agents, Wed Nov 11 2026. No macro, syntax, notation, axiom, sorry.
-/
import Derived.Test.YtmoakgkoahjijaaGreatDoorRows
import GoSem.ClaimSeven
namespace Go.Proofs.YtmoakgkoahjijaaGreatDoor
namespace Rows

/-- THE TIED CARD OF 'pointsmanlaw02.PacketPuts'. -/
def packetPutsCard : Claim7 := { stood := { row := packetPutsRow, standIns := [], harness := (true, "2d41d4dc6aead49e2ea61f4a2e4f10d1b4ec177caca382917ed01675dda5379d"), looks := false }, kinds := [], alts := [], laidByText := true, laidKinds := [.data, .data, .data], laidTests := true, laidLooks := .later }
def PacketPutsCardSaid : Prop := Claim7.holds Tryz.pinned (.plain (OpenSpec.ofChange packetPutsSpec)) packetPutsCard

/-- THE TIED CARD OF 'pointsmanlaw02.PacketTakes'. -/
def packetTakesCard : Claim7 := { stood := { row := packetTakesRow, standIns := [], harness := (true, "2d41d4dc6aead49e2ea61f4a2e4f10d1b4ec177caca382917ed01675dda5379d"), looks := false }, kinds := [], alts := [], laidByText := true, laidKinds := [.data, .data, .data], laidTests := true, laidLooks := .later }
def PacketTakesCardSaid : Prop := Claim7.holds Tryz.pinned (.plain (OpenSpec.ofChange packetTakesSpec)) packetTakesCard

/-- THE TIED CARD OF 'pointsmanlaw04.DiskPlays'. -/
def diskPlaysCard : Claim7 := { stood := { row := diskPlaysRow, standIns := [], harness := (true, "2d41d4dc6aead49e2ea61f4a2e4f10d1b4ec177caca382917ed01675dda5379d"), looks := false }, kinds := [], alts := [], laidByText := true, laidKinds := [.data, .data, .data], laidTests := true, laidLooks := .later }
def DiskPlaysCardSaid : Prop := Claim7.holds Tryz.pinned (.plain (OpenSpec.ofChange diskPlaysSpec)) diskPlaysCard

/-- THE SECOND FORM's CARD OF 'pointsmanlaw02.PacketPuts'. -/
def packetPutsUptoCard : Claim7 := { stood := { row := packetPutsUptoRow, standIns := [], harness := (true, "2d41d4dc6aead49e2ea61f4a2e4f10d1b4ec177caca382917ed01675dda5379d"), looks := false }, kinds := [], alts := [], laidByText := true, laidKinds := [.data, .data, .data], laidTests := true, laidLooks := .later }
def PacketPutsUptoCardSaid : Prop := Claim7.holds Tryz.pinned (.plain (OpenSpec.upto packetPutsSpec)) packetPutsUptoCard

/-- THE SECOND FORM's CARD OF 'pointsmanlaw02.PacketTakes'. -/
def packetTakesUptoCard : Claim7 := { stood := { row := packetTakesUptoRow, standIns := [], harness := (true, "2d41d4dc6aead49e2ea61f4a2e4f10d1b4ec177caca382917ed01675dda5379d"), looks := false }, kinds := [], alts := [], laidByText := true, laidKinds := [.data, .data, .data], laidTests := true, laidLooks := .later }
def PacketTakesUptoCardSaid : Prop := Claim7.holds Tryz.pinned (.plain (OpenSpec.upto packetTakesSpec)) packetTakesUptoCard

/-- THE SECOND FORM's CARD OF 'pointsmanlaw04.DiskPlays'. -/
def diskPlaysUptoCard : Claim7 := { stood := { row := diskPlaysUptoRow, standIns := [], harness := (true, "2d41d4dc6aead49e2ea61f4a2e4f10d1b4ec177caca382917ed01675dda5379d"), looks := false }, kinds := [], alts := [], laidByText := true, laidKinds := [.data, .data, .data], laidTests := true, laidLooks := .later }
def DiskPlaysUptoCardSaid : Prop := Claim7.holds Tryz.pinned (.plain (OpenSpec.upto diskPlaysSpec)) diskPlaysUptoCard
end Rows
end Go.Proofs.YtmoakgkoahjijaaGreatDoor
