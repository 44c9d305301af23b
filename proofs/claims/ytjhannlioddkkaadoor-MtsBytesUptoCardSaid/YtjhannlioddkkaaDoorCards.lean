/-
  DERIVED. GIVEN WITH THE SEED: THE CARDS: each row of YtjhannlioddkkaaDoorRows.lean that lists a variable, with what it lists TIED to the program's text (the seventh form; the later family's looks); each row that meets fmt, with fmt's text TOLD by the authors' own Lean function (tested against real Go, not proved from fmt's source: count such statements apart). THE CARD IS WHAT COUNTS. Prove the row's statement (the work); the ties are given (YtjhannlioddkkaaDoorTie.lean); close each card by the builder's one call (the guide's Derived/Test/ToyasCard.lean, 'card_holds'). Laid BY PROGRAM, IN A SANDBOX (cutbox-door.mjs). By AI agents, Wed Nov 11 2026. No macro, syntax, notation, axiom, sorry.
-/
import Derived.Test.YtjhannlioddkkaaDoorRows
import GoSem.ClaimSeven
namespace Go.Proofs.YtjhannlioddkkaaDoor
namespace Rows

/-- THE TIED CARD OF 'annalslaw06.MtsBytes'. -/
def mtsBytesCard : Claim7 := { stood := { row := mtsBytesRow, standIns := [], harness := (true, "d5f43142bd963e67aa9bff70071818574034d41be465c3173b2e9e3a98dbd59c"), looks := false }, kinds := [], alts := [], laidByText := true, laidKinds := [.data, .data], laidTests := true, laidLooks := .later }
def MtsBytesCardSaid : Prop := Claim7.holds Tryd.pinned (.plain (OpenSpec.ofChange mtsBytesSpec)) mtsBytesCard

/-- THE TIED CARD OF 'annalslaw13.RecordOpened'. -/
def recordOpenedCard : Claim7 := { stood := { row := recordOpenedRow, standIns := [], harness := (true, "d5f43142bd963e67aa9bff70071818574034d41be465c3173b2e9e3a98dbd59c"), looks := false }, kinds := [], alts := [], laidByText := true, laidKinds := [.data, .data], laidTests := true, laidLooks := .later }
def RecordOpenedCardSaid : Prop := Claim7.holds Tryd.pinned (.plain (OpenSpec.ofChange recordOpenedSpec)) recordOpenedCard

/-- THE TIED CARD OF 'annalslaw19.FeedAny'. -/
def feedAnyCard : Claim7 := { stood := { row := feedAnyRow, standIns := [], harness := (true, "d5f43142bd963e67aa9bff70071818574034d41be465c3173b2e9e3a98dbd59c"), looks := false }, kinds := [], alts := [], laidByText := true, laidKinds := [.data, .data], laidTests := true, laidLooks := .later }
def FeedAnyCardSaid : Prop := Claim7.holds Tryd.pinned (.plain (OpenSpec.ofChange feedAnySpec)) feedAnyCard

/-- THE TIED CARD OF 'annalslaw08.SeglogNobody'. -/
def seglogNobodyCard : Claim7 := { stood := { row := seglogNobodyRow, standIns := [], harness := (true, "d5f43142bd963e67aa9bff70071818574034d41be465c3173b2e9e3a98dbd59c"), looks := false }, kinds := [], alts := [], laidByText := true, laidKinds := [.data, .data, .data, .pinned], laidTests := true, laidLooks := .later }
def SeglogNobodyCardSaid : Prop := Claim7.holds Tryd.pinned (.plain (OpenSpec.ofChange seglogNobodySpec)) seglogNobodyCard

/-- THE TIED CARD OF 'annalslaw08.SeglogOpens'. -/
def seglogOpensCard : Claim7 := { stood := { row := seglogOpensRow, standIns := [], harness := (true, "d5f43142bd963e67aa9bff70071818574034d41be465c3173b2e9e3a98dbd59c"), looks := false }, kinds := [], alts := [], laidByText := true, laidKinds := [.data, .data, .data, .pinned], laidTests := true, laidLooks := .later }
def SeglogOpensCardSaid : Prop := Claim7.holds Tryd.pinned (.plain (OpenSpec.ofChange seglogOpensSpec)) seglogOpensCard

/-- THE TIED CARD OF 'annalslaw08.SeglogRoom'. -/
def seglogRoomCard : Claim7 := { stood := { row := seglogRoomRow, standIns := [], harness := (true, "d5f43142bd963e67aa9bff70071818574034d41be465c3173b2e9e3a98dbd59c"), looks := false }, kinds := [], alts := [], laidByText := true, laidKinds := [.data, .data, .data, .pinned], laidTests := true, laidLooks := .later }
def SeglogRoomCardSaid : Prop := Claim7.holds Tryd.pinned (.plain (OpenSpec.ofChange seglogRoomSpec)) seglogRoomCard

/-- THE TIED CARD OF 'annalslaw08.SeglogCrashes'. -/
def seglogCrashesCard : Claim7 := { stood := { row := seglogCrashesRow, standIns := [], harness := (true, "d5f43142bd963e67aa9bff70071818574034d41be465c3173b2e9e3a98dbd59c"), looks := false }, kinds := [], alts := [], laidByText := true, laidKinds := [.data, .data, .data, .pinned], laidTests := true, laidLooks := .later }
def SeglogCrashesCardSaid : Prop := Claim7.holds Tryd.pinned (.plain (OpenSpec.ofChange seglogCrashesSpec)) seglogCrashesCard

/-- THE SECOND FORM's CARD OF 'annalslaw06.MtsBytes'. -/
def mtsBytesUptoCard : Claim7 := { stood := { row := mtsBytesUptoRow, standIns := [], harness := (true, "d5f43142bd963e67aa9bff70071818574034d41be465c3173b2e9e3a98dbd59c"), looks := false }, kinds := [], alts := [], laidByText := true, laidKinds := [.data, .data], laidTests := true, laidLooks := .later }
def MtsBytesUptoCardSaid : Prop := Claim7.holds Tryd.pinned (.plain (OpenSpec.upto mtsBytesSpec)) mtsBytesUptoCard

/-- THE SECOND FORM's CARD OF 'annalslaw13.RecordOpened'. -/
def recordOpenedUptoCard : Claim7 := { stood := { row := recordOpenedUptoRow, standIns := [], harness := (true, "d5f43142bd963e67aa9bff70071818574034d41be465c3173b2e9e3a98dbd59c"), looks := false }, kinds := [], alts := [], laidByText := true, laidKinds := [.data, .data], laidTests := true, laidLooks := .later }
def RecordOpenedUptoCardSaid : Prop := Claim7.holds Tryd.pinned (.plain (OpenSpec.upto recordOpenedSpec)) recordOpenedUptoCard

/-- THE SECOND FORM's CARD OF 'annalslaw19.FeedAny'. -/
def feedAnyUptoCard : Claim7 := { stood := { row := feedAnyUptoRow, standIns := [], harness := (true, "d5f43142bd963e67aa9bff70071818574034d41be465c3173b2e9e3a98dbd59c"), looks := false }, kinds := [], alts := [], laidByText := true, laidKinds := [.data, .data], laidTests := true, laidLooks := .later }
def FeedAnyUptoCardSaid : Prop := Claim7.holds Tryd.pinned (.plain (OpenSpec.upto feedAnySpec)) feedAnyUptoCard

/-- THE SECOND FORM's CARD OF 'annalslaw08.SeglogNobody'. -/
def seglogNobodyUptoCard : Claim7 := { stood := { row := seglogNobodyUptoRow, standIns := [], harness := (true, "d5f43142bd963e67aa9bff70071818574034d41be465c3173b2e9e3a98dbd59c"), looks := false }, kinds := [], alts := [], laidByText := true, laidKinds := [.data, .data, .data, .pinned], laidTests := true, laidLooks := .later }
def SeglogNobodyUptoCardSaid : Prop := Claim7.holds Tryd.pinned (.plain (OpenSpec.upto seglogNobodySpec)) seglogNobodyUptoCard

/-- THE SECOND FORM's CARD OF 'annalslaw08.SeglogOpens'. -/
def seglogOpensUptoCard : Claim7 := { stood := { row := seglogOpensUptoRow, standIns := [], harness := (true, "d5f43142bd963e67aa9bff70071818574034d41be465c3173b2e9e3a98dbd59c"), looks := false }, kinds := [], alts := [], laidByText := true, laidKinds := [.data, .data, .data, .pinned], laidTests := true, laidLooks := .later }
def SeglogOpensUptoCardSaid : Prop := Claim7.holds Tryd.pinned (.plain (OpenSpec.upto seglogOpensSpec)) seglogOpensUptoCard

/-- THE SECOND FORM's CARD OF 'annalslaw08.SeglogRoom'. -/
def seglogRoomUptoCard : Claim7 := { stood := { row := seglogRoomUptoRow, standIns := [], harness := (true, "d5f43142bd963e67aa9bff70071818574034d41be465c3173b2e9e3a98dbd59c"), looks := false }, kinds := [], alts := [], laidByText := true, laidKinds := [.data, .data, .data, .pinned], laidTests := true, laidLooks := .later }
def SeglogRoomUptoCardSaid : Prop := Claim7.holds Tryd.pinned (.plain (OpenSpec.upto seglogRoomSpec)) seglogRoomUptoCard

/-- THE SECOND FORM's CARD OF 'annalslaw08.SeglogCrashes'. -/
def seglogCrashesUptoCard : Claim7 := { stood := { row := seglogCrashesUptoRow, standIns := [], harness := (true, "d5f43142bd963e67aa9bff70071818574034d41be465c3173b2e9e3a98dbd59c"), looks := false }, kinds := [], alts := [], laidByText := true, laidKinds := [.data, .data, .data, .pinned], laidTests := true, laidLooks := .later }
def SeglogCrashesUptoCardSaid : Prop := Claim7.holds Tryd.pinned (.plain (OpenSpec.upto seglogCrashesSpec)) seglogCrashesUptoCard
end Rows
end Go.Proofs.YtjhannlioddkkaaDoor
