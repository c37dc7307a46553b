/-
  DERIVED. GIVEN WITH THE SEED: THE CARDS: each row of YthjomnaejhehoaaGreatDoorRows.lean that lists a variable, with what it lists TIED to the program's text (the seventh form; the later family's looks); each row that meets fmt, with fmt's text TOLD by the authors' own Lean function (tested against real Go, not proved from fmt's source: count such statements apart). THE CARD IS WHAT COUNTS. Prove the row's statement (the work); the ties are given (YthjomnaejhehoaaGreatDoorTie.lean); close each card by the builder's one call (the guide's Derived/Test/ToyasCard.lean, 'card_holds'). Laid BY PROGRAM, IN A SANDBOX (cutbox-door.mjs). By AI agents, Wed Nov 11 2026. No macro, syntax, notation, axiom, sorry.
-/
import Derived.Test.YthjomnaejhehoaaGreatDoorRows
import GoSem.ClaimSeven
namespace Go.Proofs.YthjomnaejhehoaaGreatDoor
namespace Rows

/-- THE TIED CARD OF 'locketlaw9.SlotsLong'. -/
def slotsLongCard : Claim7 := { stood := { row := slotsLongRow, standIns := [], harness := (true, "295f10539cb387c4c170672a52f68d36ba89f9ffdc4485125a9ad21946dde19e"), looks := true }, kinds := [], alts := [], laidByText := true, laidKinds := [.data], laidTests := true, laidLooks := .later }
def SlotsLongCardSaid : Prop := Claim7.holds Tryz.pinned (.plain (OpenSpec.ofChange slotsLongSpec)) slotsLongCard

/-- THE TIED CARD OF 'locketlaw9.SlotsFull'. -/
def slotsFullCard : Claim7 := { stood := { row := slotsFullRow, standIns := [], harness := (true, "295f10539cb387c4c170672a52f68d36ba89f9ffdc4485125a9ad21946dde19e"), looks := true }, kinds := [], alts := [], laidByText := true, laidKinds := [.data], laidTests := true, laidLooks := .later }
def SlotsFullCardSaid : Prop := Claim7.holds Tryz.pinned (.plain (OpenSpec.ofChange slotsFullSpec)) slotsFullCard

/-- THE TIED CARD OF 'locketlaw9.SlotsPlays'. -/
def slotsPlaysCard : Claim7 := { stood := { row := slotsPlaysRow, standIns := [], harness := (true, "295f10539cb387c4c170672a52f68d36ba89f9ffdc4485125a9ad21946dde19e"), looks := true }, kinds := [], alts := [], laidByText := true, laidKinds := [.data], laidTests := true, laidLooks := .later }
def SlotsPlaysCardSaid : Prop := Claim7.holds Tryz.pinned (.plain (OpenSpec.ofChange slotsPlaysSpec)) slotsPlaysCard

/-- THE TIED CARD OF 'locketlaw9.SlotsEach'. -/
def slotsEachCard : Claim7 := { stood := { row := slotsEachRow, standIns := [], harness := (true, "295f10539cb387c4c170672a52f68d36ba89f9ffdc4485125a9ad21946dde19e"), looks := true }, kinds := [], alts := [], laidByText := true, laidKinds := [.data], laidTests := true, laidLooks := .later }
def SlotsEachCardSaid : Prop := Claim7.holds Tryz.pinned (.plain (OpenSpec.ofChange slotsEachSpec)) slotsEachCard

/-- THE TIED CARD OF 'locketlaw9.SlotsApart'. -/
def slotsApartCard : Claim7 := { stood := { row := slotsApartRow, standIns := [], harness := (true, "295f10539cb387c4c170672a52f68d36ba89f9ffdc4485125a9ad21946dde19e"), looks := true }, kinds := [], alts := [], laidByText := true, laidKinds := [.data], laidTests := true, laidLooks := .later }
def SlotsApartCardSaid : Prop := Claim7.holds Tryz.pinned (.plain (OpenSpec.ofChange slotsApartSpec)) slotsApartCard

/-- THE SECOND FORM's CARD OF 'locketlaw9.SlotsLong'. -/
def slotsLongUptoCard : Claim7 := { stood := { row := slotsLongUptoRow, standIns := [], harness := (true, "295f10539cb387c4c170672a52f68d36ba89f9ffdc4485125a9ad21946dde19e"), looks := true }, kinds := [], alts := [], laidByText := true, laidKinds := [.data], laidTests := true, laidLooks := .later }
def SlotsLongUptoCardSaid : Prop := Claim7.holds Tryz.pinned (.plain (OpenSpec.upto slotsLongSpec)) slotsLongUptoCard

/-- THE SECOND FORM's CARD OF 'locketlaw9.SlotsFull'. -/
def slotsFullUptoCard : Claim7 := { stood := { row := slotsFullUptoRow, standIns := [], harness := (true, "295f10539cb387c4c170672a52f68d36ba89f9ffdc4485125a9ad21946dde19e"), looks := true }, kinds := [], alts := [], laidByText := true, laidKinds := [.data], laidTests := true, laidLooks := .later }
def SlotsFullUptoCardSaid : Prop := Claim7.holds Tryz.pinned (.plain (OpenSpec.upto slotsFullSpec)) slotsFullUptoCard

/-- THE SECOND FORM's CARD OF 'locketlaw9.SlotsPlays'. -/
def slotsPlaysUptoCard : Claim7 := { stood := { row := slotsPlaysUptoRow, standIns := [], harness := (true, "295f10539cb387c4c170672a52f68d36ba89f9ffdc4485125a9ad21946dde19e"), looks := true }, kinds := [], alts := [], laidByText := true, laidKinds := [.data], laidTests := true, laidLooks := .later }
def SlotsPlaysUptoCardSaid : Prop := Claim7.holds Tryz.pinned (.plain (OpenSpec.upto slotsPlaysSpec)) slotsPlaysUptoCard

/-- THE SECOND FORM's CARD OF 'locketlaw9.SlotsEach'. -/
def slotsEachUptoCard : Claim7 := { stood := { row := slotsEachUptoRow, standIns := [], harness := (true, "295f10539cb387c4c170672a52f68d36ba89f9ffdc4485125a9ad21946dde19e"), looks := true }, kinds := [], alts := [], laidByText := true, laidKinds := [.data], laidTests := true, laidLooks := .later }
def SlotsEachUptoCardSaid : Prop := Claim7.holds Tryz.pinned (.plain (OpenSpec.upto slotsEachSpec)) slotsEachUptoCard

/-- THE SECOND FORM's CARD OF 'locketlaw9.SlotsApart'. -/
def slotsApartUptoCard : Claim7 := { stood := { row := slotsApartUptoRow, standIns := [], harness := (true, "295f10539cb387c4c170672a52f68d36ba89f9ffdc4485125a9ad21946dde19e"), looks := true }, kinds := [], alts := [], laidByText := true, laidKinds := [.data], laidTests := true, laidLooks := .later }
def SlotsApartUptoCardSaid : Prop := Claim7.holds Tryz.pinned (.plain (OpenSpec.upto slotsApartSpec)) slotsApartUptoCard
end Rows
end Go.Proofs.YthjomnaejhehoaaGreatDoor
