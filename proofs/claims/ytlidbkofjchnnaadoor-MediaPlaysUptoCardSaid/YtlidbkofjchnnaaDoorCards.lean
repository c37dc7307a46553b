/-
  DERIVED. GIVEN WITH THE SEED: THE CARDS: each row of YtlidbkofjchnnaaDoorRows.lean that lists a variable, with what it lists TIED to the program's text (the seventh form; the later family's looks); each row that meets fmt, with fmt's text TOLD by the authors' own Lean function (tested against real Go, not proved from fmt's source: count such statements apart). THE CARD IS WHAT COUNTS. Prove the row's statement (the work); the ties are given (YtlidbkofjchnnaaDoorTie.lean); close each card by the builder's one call (the guide's Derived/Test/ToyasCard.lean, 'card_holds'). Laid BY PROGRAM, IN A SANDBOX (cutbox-door.mjs). By AI agents, Wed Nov 11 2026. No macro, syntax, notation, axiom, sorry.
-/
import Derived.Test.YtlidbkofjchnnaaDoorRows
import GoSem.ClaimSeven
namespace Go.Proofs.YtlidbkofjchnnaaDoor
namespace Rows

/-- THE TIED CARD OF 'locketlaw6.MediaScans'. -/
def mediaScansCard : Claim7 := { stood := { row := mediaScansRow, standIns := [], harness := (true, "29acb240c468f552063fbbc380752bbc295c92a7e0bcf52c542e2d36c0cb3b3c"), looks := false }, kinds := [], alts := [], laidByText := true, laidKinds := [.data], laidTests := true, laidLooks := .later }
def MediaScansCardSaid : Prop := Claim7.holds Tryd.pinned (.plain (OpenSpec.ofChange mediaScansSpec)) mediaScansCard

/-- THE TIED CARD OF 'locketlaw6.MediaNew'. -/
def mediaNewCard : Claim7 := { stood := { row := mediaNewRow, standIns := [], harness := (true, "29acb240c468f552063fbbc380752bbc295c92a7e0bcf52c542e2d36c0cb3b3c"), looks := false }, kinds := [], alts := [], laidByText := true, laidKinds := [.data], laidTests := true, laidLooks := .later }
def MediaNewCardSaid : Prop := Claim7.holds Tryd.pinned (.plain (OpenSpec.ofChange mediaNewSpec)) mediaNewCard

/-- THE TIED CARD OF 'locketlaw6.MediaBad'. -/
def mediaBadCard : Claim7 := { stood := { row := mediaBadRow, standIns := [], harness := (true, "29acb240c468f552063fbbc380752bbc295c92a7e0bcf52c542e2d36c0cb3b3c"), looks := false }, kinds := [], alts := [], laidByText := true, laidKinds := [.data], laidTests := true, laidLooks := .later }
def MediaBadCardSaid : Prop := Claim7.holds Tryd.pinned (.plain (OpenSpec.ofChange mediaBadSpec)) mediaBadCard

/-- THE TIED CARD OF 'locketlaw6.MediaPlays'. -/
def mediaPlaysCard : Claim7 := { stood := { row := mediaPlaysRow, standIns := [], harness := (true, "29acb240c468f552063fbbc380752bbc295c92a7e0bcf52c542e2d36c0cb3b3c"), looks := false }, kinds := [], alts := [], laidByText := true, laidKinds := [.data], laidTests := true, laidLooks := .later }
def MediaPlaysCardSaid : Prop := Claim7.holds Tryd.pinned (.plain (OpenSpec.ofChange mediaPlaysSpec)) mediaPlaysCard

/-- THE SECOND FORM's CARD OF 'locketlaw6.MediaScans'. -/
def mediaScansUptoCard : Claim7 := { stood := { row := mediaScansUptoRow, standIns := [], harness := (true, "29acb240c468f552063fbbc380752bbc295c92a7e0bcf52c542e2d36c0cb3b3c"), looks := false }, kinds := [], alts := [], laidByText := true, laidKinds := [.data], laidTests := true, laidLooks := .later }
def MediaScansUptoCardSaid : Prop := Claim7.holds Tryd.pinned (.plain (OpenSpec.upto mediaScansSpec)) mediaScansUptoCard

/-- THE SECOND FORM's CARD OF 'locketlaw6.MediaNew'. -/
def mediaNewUptoCard : Claim7 := { stood := { row := mediaNewUptoRow, standIns := [], harness := (true, "29acb240c468f552063fbbc380752bbc295c92a7e0bcf52c542e2d36c0cb3b3c"), looks := false }, kinds := [], alts := [], laidByText := true, laidKinds := [.data], laidTests := true, laidLooks := .later }
def MediaNewUptoCardSaid : Prop := Claim7.holds Tryd.pinned (.plain (OpenSpec.upto mediaNewSpec)) mediaNewUptoCard

/-- THE SECOND FORM's CARD OF 'locketlaw6.MediaBad'. -/
def mediaBadUptoCard : Claim7 := { stood := { row := mediaBadUptoRow, standIns := [], harness := (true, "29acb240c468f552063fbbc380752bbc295c92a7e0bcf52c542e2d36c0cb3b3c"), looks := false }, kinds := [], alts := [], laidByText := true, laidKinds := [.data], laidTests := true, laidLooks := .later }
def MediaBadUptoCardSaid : Prop := Claim7.holds Tryd.pinned (.plain (OpenSpec.upto mediaBadSpec)) mediaBadUptoCard

/-- THE SECOND FORM's CARD OF 'locketlaw6.MediaPlays'. -/
def mediaPlaysUptoCard : Claim7 := { stood := { row := mediaPlaysUptoRow, standIns := [], harness := (true, "29acb240c468f552063fbbc380752bbc295c92a7e0bcf52c542e2d36c0cb3b3c"), looks := false }, kinds := [], alts := [], laidByText := true, laidKinds := [.data], laidTests := true, laidLooks := .later }
def MediaPlaysUptoCardSaid : Prop := Claim7.holds Tryd.pinned (.plain (OpenSpec.upto mediaPlaysSpec)) mediaPlaysUptoCard
end Rows
end Go.Proofs.YtlidbkofjchnnaaDoor
