/-
  DERIVED. GIVEN WITH THE SEED: THE CARDS: each row of YtgfkejecigefbaaDoorRows.lean that lists a variable, with what it lists TIED to the program's text (the seventh form; the later family's looks); each row that meets fmt, with fmt's text TOLD by the authors' own Lean function (tested against real Go, not proved from fmt's source: count such statements apart). THE CARD IS WHAT COUNTS. Prove the row's statement (the work); the ties are given (YtgfkejecigefbaaDoorTie.lean); close each card by the builder's one call (the guide's Derived/Test/ToyasCard.lean, 'card_holds'). Laid BY PROGRAM, IN A SANDBOX (cutbox-door.mjs). By AI agents, Wed Nov 11 2026. No macro, syntax, notation, axiom, sorry.
-/
import Derived.Test.YtgfkejecigefbaaDoorRows
import GoSem.ClaimSeven
namespace Go.Proofs.YtgfkejecigefbaaDoor
namespace Rows

/-- THE TIED CARD OF 'annalslaw19.FeedAny'. -/
def feedAnyCard : Claim7 := { stood := { row := feedAnyRow, standIns := [], harness := (true, "aa936fe8a7936c83ee34f8911873d5134e5d90a3dbb076ff1ec035ee7dba71b7"), looks := false }, kinds := [], alts := [], laidByText := true, laidKinds := [.data, .data], laidTests := true, laidLooks := .later }
def FeedAnyCardSaid : Prop := Claim7.holds Tryd.pinned (.plain (OpenSpec.ofChange feedAnySpec)) feedAnyCard

/-- THE TIED CARD OF 'annalslaw08.SeglogNobody'. -/
def seglogNobodyCard : Claim7 := { stood := { row := seglogNobodyRow, standIns := [], harness := (true, "aa936fe8a7936c83ee34f8911873d5134e5d90a3dbb076ff1ec035ee7dba71b7"), looks := false }, kinds := [], alts := [], laidByText := true, laidKinds := [.data, .data, .data, .pinned], laidTests := true, laidLooks := .later }
def SeglogNobodyCardSaid : Prop := Claim7.holds Tryd.pinned (.plain (OpenSpec.ofChange seglogNobodySpec)) seglogNobodyCard

/-- THE TIED CARD OF 'annalslaw08.SeglogCrashes'. -/
def seglogCrashesCard : Claim7 := { stood := { row := seglogCrashesRow, standIns := [], harness := (true, "aa936fe8a7936c83ee34f8911873d5134e5d90a3dbb076ff1ec035ee7dba71b7"), looks := false }, kinds := [], alts := [], laidByText := true, laidKinds := [.data, .data, .data, .pinned], laidTests := true, laidLooks := .later }
def SeglogCrashesCardSaid : Prop := Claim7.holds Tryd.pinned (.plain (OpenSpec.ofChange seglogCrashesSpec)) seglogCrashesCard

/-- THE TIED CARD OF 'annalslaw08.SeglogOpens'. -/
def seglogOpensCard : Claim7 := { stood := { row := seglogOpensRow, standIns := [], harness := (true, "aa936fe8a7936c83ee34f8911873d5134e5d90a3dbb076ff1ec035ee7dba71b7"), looks := false }, kinds := [], alts := [], laidByText := true, laidKinds := [.data, .data, .data, .pinned], laidTests := true, laidLooks := .later }
def SeglogOpensCardSaid : Prop := Claim7.holds Tryd.pinned (.plain (OpenSpec.ofChange seglogOpensSpec)) seglogOpensCard

/-- THE TIED CARD OF 'annalslaw08.SeglogRoom'. -/
def seglogRoomCard : Claim7 := { stood := { row := seglogRoomRow, standIns := [], harness := (true, "aa936fe8a7936c83ee34f8911873d5134e5d90a3dbb076ff1ec035ee7dba71b7"), looks := false }, kinds := [], alts := [], laidByText := true, laidKinds := [.data, .data, .data, .pinned], laidTests := true, laidLooks := .later }
def SeglogRoomCardSaid : Prop := Claim7.holds Tryd.pinned (.plain (OpenSpec.ofChange seglogRoomSpec)) seglogRoomCard

/-- THE SECOND FORM's CARD OF 'annalslaw19.FeedAny'. -/
def feedAnyUptoCard : Claim7 := { stood := { row := feedAnyUptoRow, standIns := [], harness := (true, "aa936fe8a7936c83ee34f8911873d5134e5d90a3dbb076ff1ec035ee7dba71b7"), looks := false }, kinds := [], alts := [], laidByText := true, laidKinds := [.data, .data], laidTests := true, laidLooks := .later }
def FeedAnyUptoCardSaid : Prop := Claim7.holds Tryd.pinned (.plain (OpenSpec.upto feedAnySpec)) feedAnyUptoCard

/-- THE SECOND FORM's CARD OF 'annalslaw08.SeglogNobody'. -/
def seglogNobodyUptoCard : Claim7 := { stood := { row := seglogNobodyUptoRow, standIns := [], harness := (true, "aa936fe8a7936c83ee34f8911873d5134e5d90a3dbb076ff1ec035ee7dba71b7"), looks := false }, kinds := [], alts := [], laidByText := true, laidKinds := [.data, .data, .data, .pinned], laidTests := true, laidLooks := .later }
def SeglogNobodyUptoCardSaid : Prop := Claim7.holds Tryd.pinned (.plain (OpenSpec.upto seglogNobodySpec)) seglogNobodyUptoCard

/-- THE SECOND FORM's CARD OF 'annalslaw08.SeglogCrashes'. -/
def seglogCrashesUptoCard : Claim7 := { stood := { row := seglogCrashesUptoRow, standIns := [], harness := (true, "aa936fe8a7936c83ee34f8911873d5134e5d90a3dbb076ff1ec035ee7dba71b7"), looks := false }, kinds := [], alts := [], laidByText := true, laidKinds := [.data, .data, .data, .pinned], laidTests := true, laidLooks := .later }
def SeglogCrashesUptoCardSaid : Prop := Claim7.holds Tryd.pinned (.plain (OpenSpec.upto seglogCrashesSpec)) seglogCrashesUptoCard

/-- THE SECOND FORM's CARD OF 'annalslaw08.SeglogOpens'. -/
def seglogOpensUptoCard : Claim7 := { stood := { row := seglogOpensUptoRow, standIns := [], harness := (true, "aa936fe8a7936c83ee34f8911873d5134e5d90a3dbb076ff1ec035ee7dba71b7"), looks := false }, kinds := [], alts := [], laidByText := true, laidKinds := [.data, .data, .data, .pinned], laidTests := true, laidLooks := .later }
def SeglogOpensUptoCardSaid : Prop := Claim7.holds Tryd.pinned (.plain (OpenSpec.upto seglogOpensSpec)) seglogOpensUptoCard

/-- THE SECOND FORM's CARD OF 'annalslaw08.SeglogRoom'. -/
def seglogRoomUptoCard : Claim7 := { stood := { row := seglogRoomUptoRow, standIns := [], harness := (true, "aa936fe8a7936c83ee34f8911873d5134e5d90a3dbb076ff1ec035ee7dba71b7"), looks := false }, kinds := [], alts := [], laidByText := true, laidKinds := [.data, .data, .data, .pinned], laidTests := true, laidLooks := .later }
def SeglogRoomUptoCardSaid : Prop := Claim7.holds Tryd.pinned (.plain (OpenSpec.upto seglogRoomSpec)) seglogRoomUptoCard
end Rows
end Go.Proofs.YtgfkejecigefbaaDoor
