/-
  DERIVED. GIVEN WITH THE SEED: THE CARDS: each row of YtkabinicmdcbpaaDoorRows.lean that lists a variable, with what it lists TIED to the program's text (the seventh form; the later family's looks); each row that meets fmt, with fmt's text TOLD by the authors' own Lean function (tested against real Go, not proved from fmt's source: count such statements apart). THE CARD IS WHAT COUNTS. Prove the row's statement (the work); the ties are given (YtkabinicmdcbpaaDoorTie.lean); close each card by the builder's one call (the guide's Derived/Test/ToyasCard.lean, 'card_holds'). Laid BY PROGRAM, IN A SANDBOX (cutbox-door.mjs). By AI agents, Wed Nov 11 2026. No macro, syntax, notation, axiom, sorry.
-/
import Derived.Test.YtkabinicmdcbpaaDoorRows
import GoSem.ClaimSeven
namespace Go.Proofs.YtkabinicmdcbpaaDoor
namespace Rows

/-- THE TIED CARD OF 'annalslaw05.WotsWalks'. -/
def wotsWalksCard : Claim7 := { stood := { row := wotsWalksRow, standIns := [], harness := (true, "15702da844aab922900d677b223fb48f23e13713f599a9b88c0d31d248daf403"), looks := false }, kinds := [], alts := [], laidByText := true, laidKinds := [.data, .data], laidTests := true, laidLooks := .later }
def WotsWalksCardSaid : Prop := Claim7.holds Tryd.pinned (.plain (OpenSpec.ofChange wotsWalksSpec)) wotsWalksCard

/-- THE TIED CARD OF 'annalslaw05.WotsSigns'. -/
def wotsSignsCard : Claim7 := { stood := { row := wotsSignsRow, standIns := [], harness := (true, "15702da844aab922900d677b223fb48f23e13713f599a9b88c0d31d248daf403"), looks := false }, kinds := [], alts := [], laidByText := true, laidKinds := [.data, .data], laidTests := true, laidLooks := .later }
def WotsSignsCardSaid : Prop := Claim7.holds Tryd.pinned (.plain (OpenSpec.ofChange wotsSignsSpec)) wotsSignsCard

/-- THE TIED CARD OF 'annalslaw05.WotsBack'. -/
def wotsBackCard : Claim7 := { stood := { row := wotsBackRow, standIns := [], harness := (true, "15702da844aab922900d677b223fb48f23e13713f599a9b88c0d31d248daf403"), looks := false }, kinds := [], alts := [], laidByText := true, laidKinds := [.data, .data], laidTests := true, laidLooks := .later }
def WotsBackCardSaid : Prop := Claim7.holds Tryd.pinned (.plain (OpenSpec.ofChange wotsBackSpec)) wotsBackCard

/-- THE TIED CARD OF 'annalslaw11.MerkleFew'. -/
def merkleFewCard : Claim7 := { stood := { row := merkleFewRow, standIns := [], harness := (true, "15702da844aab922900d677b223fb48f23e13713f599a9b88c0d31d248daf403"), looks := false }, kinds := [], alts := [], laidByText := true, laidKinds := [.data, .data], laidTests := true, laidLooks := .later }
def MerkleFewCardSaid : Prop := Claim7.holds Tryd.pinned (.plain (OpenSpec.ofChange merkleFewSpec)) merkleFewCard

/-- THE TIED CARD OF 'annalslaw11.MerkleBack'. -/
def merkleBackCard : Claim7 := { stood := { row := merkleBackRow, standIns := [], harness := (true, "15702da844aab922900d677b223fb48f23e13713f599a9b88c0d31d248daf403"), looks := false }, kinds := [], alts := [], laidByText := true, laidKinds := [.data, .data], laidTests := true, laidLooks := .later }
def MerkleBackCardSaid : Prop := Claim7.holds Tryd.pinned (.plain (OpenSpec.ofChange merkleBackSpec)) merkleBackCard

/-- THE TIED CARD OF 'annalslaw12.ChangeLists'. -/
def changeListsCard : Claim7 := { stood := { row := changeListsRow, standIns := [], harness := (true, "15702da844aab922900d677b223fb48f23e13713f599a9b88c0d31d248daf403"), looks := false }, kinds := [], alts := [], laidByText := true, laidKinds := [.data, .data], laidTests := true, laidLooks := .later }
def ChangeListsCardSaid : Prop := Claim7.holds Tryd.pinned (.plain (OpenSpec.ofChange changeListsSpec)) changeListsCard

/-- THE TIED CARD OF 'annalslaw06.MtsNew'. -/
def mtsNewCard : Claim7 := { stood := { row := mtsNewRow, standIns := [], harness := (true, "15702da844aab922900d677b223fb48f23e13713f599a9b88c0d31d248daf403"), looks := false }, kinds := [], alts := [], laidByText := true, laidKinds := [.data, .data], laidTests := true, laidLooks := .later }
def MtsNewCardSaid : Prop := Claim7.holds Tryd.pinned (.plain (OpenSpec.ofChange mtsNewSpec)) mtsNewCard

/-- THE TIED CARD OF 'annalslaw06.MtsNobody'. -/
def mtsNobodyCard : Claim7 := { stood := { row := mtsNobodyRow, standIns := [], harness := (true, "15702da844aab922900d677b223fb48f23e13713f599a9b88c0d31d248daf403"), looks := false }, kinds := [], alts := [], laidByText := true, laidKinds := [.data, .data], laidTests := true, laidLooks := .later }
def MtsNobodyCardSaid : Prop := Claim7.holds Tryd.pinned (.plain (OpenSpec.ofChange mtsNobodySpec)) mtsNobodyCard

/-- THE TIED CARD OF 'annalslaw06.MtsVerifies'. -/
def mtsVerifiesCard : Claim7 := { stood := { row := mtsVerifiesRow, standIns := [], harness := (true, "15702da844aab922900d677b223fb48f23e13713f599a9b88c0d31d248daf403"), looks := false }, kinds := [], alts := [], laidByText := true, laidKinds := [.data, .data], laidTests := true, laidLooks := .later }
def MtsVerifiesCardSaid : Prop := Claim7.holds Tryd.pinned (.plain (OpenSpec.ofChange mtsVerifiesSpec)) mtsVerifiesCard

/-- THE TIED CARD OF 'annalslaw06.MtsBack'. -/
def mtsBackCard : Claim7 := { stood := { row := mtsBackRow, standIns := [], harness := (true, "15702da844aab922900d677b223fb48f23e13713f599a9b88c0d31d248daf403"), looks := false }, kinds := [], alts := [], laidByText := true, laidKinds := [.data, .data], laidTests := true, laidLooks := .later }
def MtsBackCardSaid : Prop := Claim7.holds Tryd.pinned (.plain (OpenSpec.ofChange mtsBackSpec)) mtsBackCard

/-- THE TIED CARD OF 'annalslaw06.MtsKeys'. -/
def mtsKeysCard : Claim7 := { stood := { row := mtsKeysRow, standIns := [], harness := (true, "15702da844aab922900d677b223fb48f23e13713f599a9b88c0d31d248daf403"), looks := false }, kinds := [], alts := [], laidByText := true, laidKinds := [.data, .data], laidTests := true, laidLooks := .later }
def MtsKeysCardSaid : Prop := Claim7.holds Tryd.pinned (.plain (OpenSpec.ofChange mtsKeysSpec)) mtsKeysCard

/-- THE TIED CARD OF 'annalslaw06.MtsBytes'. -/
def mtsBytesCard : Claim7 := { stood := { row := mtsBytesRow, standIns := [], harness := (true, "15702da844aab922900d677b223fb48f23e13713f599a9b88c0d31d248daf403"), looks := false }, kinds := [], alts := [], laidByText := true, laidKinds := [.data, .data], laidTests := true, laidLooks := .later }
def MtsBytesCardSaid : Prop := Claim7.holds Tryd.pinned (.plain (OpenSpec.ofChange mtsBytesSpec)) mtsBytesCard

/-- THE SECOND FORM's CARD OF 'annalslaw05.WotsWalks'. -/
def wotsWalksUptoCard : Claim7 := { stood := { row := wotsWalksUptoRow, standIns := [], harness := (true, "15702da844aab922900d677b223fb48f23e13713f599a9b88c0d31d248daf403"), looks := false }, kinds := [], alts := [], laidByText := true, laidKinds := [.data, .data], laidTests := true, laidLooks := .later }
def WotsWalksUptoCardSaid : Prop := Claim7.holds Tryd.pinned (.plain (OpenSpec.upto wotsWalksSpec)) wotsWalksUptoCard

/-- THE SECOND FORM's CARD OF 'annalslaw05.WotsSigns'. -/
def wotsSignsUptoCard : Claim7 := { stood := { row := wotsSignsUptoRow, standIns := [], harness := (true, "15702da844aab922900d677b223fb48f23e13713f599a9b88c0d31d248daf403"), looks := false }, kinds := [], alts := [], laidByText := true, laidKinds := [.data, .data], laidTests := true, laidLooks := .later }
def WotsSignsUptoCardSaid : Prop := Claim7.holds Tryd.pinned (.plain (OpenSpec.upto wotsSignsSpec)) wotsSignsUptoCard

/-- THE SECOND FORM's CARD OF 'annalslaw05.WotsBack'. -/
def wotsBackUptoCard : Claim7 := { stood := { row := wotsBackUptoRow, standIns := [], harness := (true, "15702da844aab922900d677b223fb48f23e13713f599a9b88c0d31d248daf403"), looks := false }, kinds := [], alts := [], laidByText := true, laidKinds := [.data, .data], laidTests := true, laidLooks := .later }
def WotsBackUptoCardSaid : Prop := Claim7.holds Tryd.pinned (.plain (OpenSpec.upto wotsBackSpec)) wotsBackUptoCard

/-- THE SECOND FORM's CARD OF 'annalslaw11.MerkleFew'. -/
def merkleFewUptoCard : Claim7 := { stood := { row := merkleFewUptoRow, standIns := [], harness := (true, "15702da844aab922900d677b223fb48f23e13713f599a9b88c0d31d248daf403"), looks := false }, kinds := [], alts := [], laidByText := true, laidKinds := [.data, .data], laidTests := true, laidLooks := .later }
def MerkleFewUptoCardSaid : Prop := Claim7.holds Tryd.pinned (.plain (OpenSpec.upto merkleFewSpec)) merkleFewUptoCard

/-- THE SECOND FORM's CARD OF 'annalslaw11.MerkleBack'. -/
def merkleBackUptoCard : Claim7 := { stood := { row := merkleBackUptoRow, standIns := [], harness := (true, "15702da844aab922900d677b223fb48f23e13713f599a9b88c0d31d248daf403"), looks := false }, kinds := [], alts := [], laidByText := true, laidKinds := [.data, .data], laidTests := true, laidLooks := .later }
def MerkleBackUptoCardSaid : Prop := Claim7.holds Tryd.pinned (.plain (OpenSpec.upto merkleBackSpec)) merkleBackUptoCard

/-- THE SECOND FORM's CARD OF 'annalslaw12.ChangeLists'. -/
def changeListsUptoCard : Claim7 := { stood := { row := changeListsUptoRow, standIns := [], harness := (true, "15702da844aab922900d677b223fb48f23e13713f599a9b88c0d31d248daf403"), looks := false }, kinds := [], alts := [], laidByText := true, laidKinds := [.data, .data], laidTests := true, laidLooks := .later }
def ChangeListsUptoCardSaid : Prop := Claim7.holds Tryd.pinned (.plain (OpenSpec.upto changeListsSpec)) changeListsUptoCard

/-- THE SECOND FORM's CARD OF 'annalslaw06.MtsNew'. -/
def mtsNewUptoCard : Claim7 := { stood := { row := mtsNewUptoRow, standIns := [], harness := (true, "15702da844aab922900d677b223fb48f23e13713f599a9b88c0d31d248daf403"), looks := false }, kinds := [], alts := [], laidByText := true, laidKinds := [.data, .data], laidTests := true, laidLooks := .later }
def MtsNewUptoCardSaid : Prop := Claim7.holds Tryd.pinned (.plain (OpenSpec.upto mtsNewSpec)) mtsNewUptoCard

/-- THE SECOND FORM's CARD OF 'annalslaw06.MtsNobody'. -/
def mtsNobodyUptoCard : Claim7 := { stood := { row := mtsNobodyUptoRow, standIns := [], harness := (true, "15702da844aab922900d677b223fb48f23e13713f599a9b88c0d31d248daf403"), looks := false }, kinds := [], alts := [], laidByText := true, laidKinds := [.data, .data], laidTests := true, laidLooks := .later }
def MtsNobodyUptoCardSaid : Prop := Claim7.holds Tryd.pinned (.plain (OpenSpec.upto mtsNobodySpec)) mtsNobodyUptoCard

/-- THE SECOND FORM's CARD OF 'annalslaw06.MtsVerifies'. -/
def mtsVerifiesUptoCard : Claim7 := { stood := { row := mtsVerifiesUptoRow, standIns := [], harness := (true, "15702da844aab922900d677b223fb48f23e13713f599a9b88c0d31d248daf403"), looks := false }, kinds := [], alts := [], laidByText := true, laidKinds := [.data, .data], laidTests := true, laidLooks := .later }
def MtsVerifiesUptoCardSaid : Prop := Claim7.holds Tryd.pinned (.plain (OpenSpec.upto mtsVerifiesSpec)) mtsVerifiesUptoCard

/-- THE SECOND FORM's CARD OF 'annalslaw06.MtsBack'. -/
def mtsBackUptoCard : Claim7 := { stood := { row := mtsBackUptoRow, standIns := [], harness := (true, "15702da844aab922900d677b223fb48f23e13713f599a9b88c0d31d248daf403"), looks := false }, kinds := [], alts := [], laidByText := true, laidKinds := [.data, .data], laidTests := true, laidLooks := .later }
def MtsBackUptoCardSaid : Prop := Claim7.holds Tryd.pinned (.plain (OpenSpec.upto mtsBackSpec)) mtsBackUptoCard

/-- THE SECOND FORM's CARD OF 'annalslaw06.MtsKeys'. -/
def mtsKeysUptoCard : Claim7 := { stood := { row := mtsKeysUptoRow, standIns := [], harness := (true, "15702da844aab922900d677b223fb48f23e13713f599a9b88c0d31d248daf403"), looks := false }, kinds := [], alts := [], laidByText := true, laidKinds := [.data, .data], laidTests := true, laidLooks := .later }
def MtsKeysUptoCardSaid : Prop := Claim7.holds Tryd.pinned (.plain (OpenSpec.upto mtsKeysSpec)) mtsKeysUptoCard

/-- THE SECOND FORM's CARD OF 'annalslaw06.MtsBytes'. -/
def mtsBytesUptoCard : Claim7 := { stood := { row := mtsBytesUptoRow, standIns := [], harness := (true, "15702da844aab922900d677b223fb48f23e13713f599a9b88c0d31d248daf403"), looks := false }, kinds := [], alts := [], laidByText := true, laidKinds := [.data, .data], laidTests := true, laidLooks := .later }
def MtsBytesUptoCardSaid : Prop := Claim7.holds Tryd.pinned (.plain (OpenSpec.upto mtsBytesSpec)) mtsBytesUptoCard
end Rows
end Go.Proofs.YtkabinicmdcbpaaDoor
