/-
  DERIVED. GIVEN WITH THE SEED: THE CARDS: each row of YtjhannlioddkkaaGreatDoorRows.lean that lists a variable, with what it lists TIED to the program's text (the seventh form; the later family's looks); each row that meets fmt, with fmt's text TOLD by the authors' own Lean function (tested against real Go, not proved from fmt's source: count such statements apart). THE CARD IS WHAT COUNTS. Prove the row's statement (the work); the ties are given (YtjhannlioddkkaaGreatDoorTie.lean); close each card by the builder's one call (the guide's Derived/Test/ToyasCard.lean, 'card_holds'). Laid BY PROGRAM, IN A SANDBOX (cutbox-door.mjs). By AI agents, Wed Nov 11 2026. No macro, syntax, notation, axiom, sorry.
-/
import Derived.Test.YtjhannlioddkkaaGreatDoorRows
import GoSem.ClaimSeven
namespace Go.Proofs.YtjhannlioddkkaaGreatDoor
namespace Rows

/-- THE TIED CARD OF 'annalslaw13.RecordSeals'. -/
def recordSealsCard : Claim7 := { stood := { row := recordSealsRow, standIns := [], harness := (true, "cb9713e47611333d2ce3c0272faf0ac7022568492a7921bf9bc03c0ff3356986"), looks := false }, kinds := [], alts := [], laidByText := true, laidKinds := [.data, .data, .data, .data], laidTests := true, laidLooks := .later }
def RecordSealsCardSaid : Prop := Claim7.holds Tryz.pinned (.plain (OpenSpec.ofChange recordSealsSpec)) recordSealsCard

/-- THE SECOND FORM's CARD OF 'annalslaw13.RecordSeals'. -/
def recordSealsUptoCard : Claim7 := { stood := { row := recordSealsUptoRow, standIns := [], harness := (true, "cb9713e47611333d2ce3c0272faf0ac7022568492a7921bf9bc03c0ff3356986"), looks := false }, kinds := [], alts := [], laidByText := true, laidKinds := [.data, .data, .data, .data], laidTests := true, laidLooks := .later }
def RecordSealsUptoCardSaid : Prop := Claim7.holds Tryz.pinned (.plain (OpenSpec.upto recordSealsSpec)) recordSealsUptoCard
end Rows
end Go.Proofs.YtjhannlioddkkaaGreatDoor
