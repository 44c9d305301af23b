/-
  DERIVED. GIVEN WITH THE SEED: THE CARDS: each row of YtpdajglcpkfonaaDoorRows.lean that lists a variable, with what it lists TIED to the program's text (the seventh form; the later family's looks); each row that meets fmt, with fmt's text TOLD by the authors' own Lean function (tested against real Go, not proved from fmt's source: count such statements apart). THE CARD IS WHAT COUNTS. Prove the row's statement (the work); the ties are given (YtpdajglcpkfonaaDoorTie.lean); close each card by the builder's one call (the guide's Derived/Test/ToyasCard.lean, 'card_holds'). Laid BY PROGRAM, IN A SANDBOX (cutbox-door.mjs). By AI agents, Wed Nov 11 2026. No macro, syntax, notation, axiom, sorry.
-/
import Derived.Test.YtpdajglcpkfonaaDoorRows
import GoSem.ClaimSeven
namespace Go.Proofs.YtpdajglcpkfonaaDoor
namespace Rows

/-- THE TIED CARD OF 'annalslaw01.ShaBorders'. -/
def shaBordersCard : Claim7 := { stood := { row := shaBordersRow, standIns := [], harness := (true, "07c7e92bd5c41d160b4787f4b455849a04fcb732fec9b45460b66b6d75ead1c1"), looks := false }, kinds := [], alts := [], laidByText := true, laidKinds := [.data, .data], laidTests := true, laidLooks := .later }
def ShaBordersCardSaid : Prop := Claim7.holds Tryd.pinned (.plain (OpenSpec.ofChange shaBordersSpec)) shaBordersCard

/-- THE TIED CARD OF 'annalslaw01.ShaBlocks'. -/
def shaBlocksCard : Claim7 := { stood := { row := shaBlocksRow, standIns := [], harness := (true, "07c7e92bd5c41d160b4787f4b455849a04fcb732fec9b45460b66b6d75ead1c1"), looks := false }, kinds := [], alts := [], laidByText := true, laidKinds := [.data, .data], laidTests := true, laidLooks := .later }
def ShaBlocksCardSaid : Prop := Claim7.holds Tryd.pinned (.plain (OpenSpec.ofChange shaBlocksSpec)) shaBlocksCard

/-- THE TIED CARD OF 'annalslaw01.ShaCuts'. -/
def shaCutsCard : Claim7 := { stood := { row := shaCutsRow, standIns := [], harness := (true, "07c7e92bd5c41d160b4787f4b455849a04fcb732fec9b45460b66b6d75ead1c1"), looks := false }, kinds := [], alts := [], laidByText := true, laidKinds := [.data, .data], laidTests := true, laidLooks := .later }
def ShaCutsCardSaid : Prop := Claim7.holds Tryd.pinned (.plain (OpenSpec.ofChange shaCutsSpec)) shaCutsCard

/-- THE TIED CARD OF 'annalslaw01.ShaSums'. -/
def shaSumsCard : Claim7 := { stood := { row := shaSumsRow, standIns := [], harness := (true, "07c7e92bd5c41d160b4787f4b455849a04fcb732fec9b45460b66b6d75ead1c1"), looks := false }, kinds := [], alts := [], laidByText := true, laidKinds := [.data, .data], laidTests := true, laidLooks := .later }
def ShaSumsCardSaid : Prop := Claim7.holds Tryd.pinned (.plain (OpenSpec.ofChange shaSumsSpec)) shaSumsCard

/-- THE TIED CARD OF 'annalslaw02.TextsMade'. -/
def textsMadeCard : Claim7 := { stood := { row := textsMadeRow, standIns := [], harness := (true, "07c7e92bd5c41d160b4787f4b455849a04fcb732fec9b45460b66b6d75ead1c1"), looks := false }, kinds := [], alts := [], laidByText := true, laidKinds := [.data, .data], laidTests := true, laidLooks := .later }
def TextsMadeCardSaid : Prop := Claim7.holds Tryd.pinned (.plain (OpenSpec.ofChange textsMadeSpec)) textsMadeCard

/-- THE TIED CARD OF 'annalslaw05.WotsWalks'. -/
def wotsWalksCard : Claim7 := { stood := { row := wotsWalksRow, standIns := [], harness := (true, "07c7e92bd5c41d160b4787f4b455849a04fcb732fec9b45460b66b6d75ead1c1"), looks := false }, kinds := [], alts := [], laidByText := true, laidKinds := [.data, .data], laidTests := true, laidLooks := .later }
def WotsWalksCardSaid : Prop := Claim7.holds Tryd.pinned (.plain (OpenSpec.ofChange wotsWalksSpec)) wotsWalksCard

/-- THE TIED CARD OF 'annalslaw11.MerkleFew'. -/
def merkleFewCard : Claim7 := { stood := { row := merkleFewRow, standIns := [], harness := (true, "07c7e92bd5c41d160b4787f4b455849a04fcb732fec9b45460b66b6d75ead1c1"), looks := false }, kinds := [], alts := [], laidByText := true, laidKinds := [.data, .data], laidTests := true, laidLooks := .later }
def MerkleFewCardSaid : Prop := Claim7.holds Tryd.pinned (.plain (OpenSpec.ofChange merkleFewSpec)) merkleFewCard

/-- THE SECOND FORM's CARD OF 'annalslaw01.ShaBorders'. -/
def shaBordersUptoCard : Claim7 := { stood := { row := shaBordersUptoRow, standIns := [], harness := (true, "07c7e92bd5c41d160b4787f4b455849a04fcb732fec9b45460b66b6d75ead1c1"), looks := false }, kinds := [], alts := [], laidByText := true, laidKinds := [.data, .data], laidTests := true, laidLooks := .later }
def ShaBordersUptoCardSaid : Prop := Claim7.holds Tryd.pinned (.plain (OpenSpec.upto shaBordersSpec)) shaBordersUptoCard

/-- THE SECOND FORM's CARD OF 'annalslaw01.ShaBlocks'. -/
def shaBlocksUptoCard : Claim7 := { stood := { row := shaBlocksUptoRow, standIns := [], harness := (true, "07c7e92bd5c41d160b4787f4b455849a04fcb732fec9b45460b66b6d75ead1c1"), looks := false }, kinds := [], alts := [], laidByText := true, laidKinds := [.data, .data], laidTests := true, laidLooks := .later }
def ShaBlocksUptoCardSaid : Prop := Claim7.holds Tryd.pinned (.plain (OpenSpec.upto shaBlocksSpec)) shaBlocksUptoCard

/-- THE SECOND FORM's CARD OF 'annalslaw01.ShaCuts'. -/
def shaCutsUptoCard : Claim7 := { stood := { row := shaCutsUptoRow, standIns := [], harness := (true, "07c7e92bd5c41d160b4787f4b455849a04fcb732fec9b45460b66b6d75ead1c1"), looks := false }, kinds := [], alts := [], laidByText := true, laidKinds := [.data, .data], laidTests := true, laidLooks := .later }
def ShaCutsUptoCardSaid : Prop := Claim7.holds Tryd.pinned (.plain (OpenSpec.upto shaCutsSpec)) shaCutsUptoCard

/-- THE SECOND FORM's CARD OF 'annalslaw01.ShaSums'. -/
def shaSumsUptoCard : Claim7 := { stood := { row := shaSumsUptoRow, standIns := [], harness := (true, "07c7e92bd5c41d160b4787f4b455849a04fcb732fec9b45460b66b6d75ead1c1"), looks := false }, kinds := [], alts := [], laidByText := true, laidKinds := [.data, .data], laidTests := true, laidLooks := .later }
def ShaSumsUptoCardSaid : Prop := Claim7.holds Tryd.pinned (.plain (OpenSpec.upto shaSumsSpec)) shaSumsUptoCard

/-- THE SECOND FORM's CARD OF 'annalslaw02.TextsMade'. -/
def textsMadeUptoCard : Claim7 := { stood := { row := textsMadeUptoRow, standIns := [], harness := (true, "07c7e92bd5c41d160b4787f4b455849a04fcb732fec9b45460b66b6d75ead1c1"), looks := false }, kinds := [], alts := [], laidByText := true, laidKinds := [.data, .data], laidTests := true, laidLooks := .later }
def TextsMadeUptoCardSaid : Prop := Claim7.holds Tryd.pinned (.plain (OpenSpec.upto textsMadeSpec)) textsMadeUptoCard

/-- THE SECOND FORM's CARD OF 'annalslaw05.WotsWalks'. -/
def wotsWalksUptoCard : Claim7 := { stood := { row := wotsWalksUptoRow, standIns := [], harness := (true, "07c7e92bd5c41d160b4787f4b455849a04fcb732fec9b45460b66b6d75ead1c1"), looks := false }, kinds := [], alts := [], laidByText := true, laidKinds := [.data, .data], laidTests := true, laidLooks := .later }
def WotsWalksUptoCardSaid : Prop := Claim7.holds Tryd.pinned (.plain (OpenSpec.upto wotsWalksSpec)) wotsWalksUptoCard

/-- THE SECOND FORM's CARD OF 'annalslaw11.MerkleFew'. -/
def merkleFewUptoCard : Claim7 := { stood := { row := merkleFewUptoRow, standIns := [], harness := (true, "07c7e92bd5c41d160b4787f4b455849a04fcb732fec9b45460b66b6d75ead1c1"), looks := false }, kinds := [], alts := [], laidByText := true, laidKinds := [.data, .data], laidTests := true, laidLooks := .later }
def MerkleFewUptoCardSaid : Prop := Claim7.holds Tryd.pinned (.plain (OpenSpec.upto merkleFewSpec)) merkleFewUptoCard
end Rows
end Go.Proofs.YtpdajglcpkfonaaDoor
