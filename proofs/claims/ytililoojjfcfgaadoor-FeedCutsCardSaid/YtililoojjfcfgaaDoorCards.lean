/-
  DERIVED. GIVEN WITH THE SEED: THE CARDS: each row of YtililoojjfcfgaaDoorRows.lean that lists a variable, with what it lists TIED to the program's text (the seventh form; the later family's looks); each row that meets fmt, with fmt's text TOLD by the authors' own Lean function (tested against real Go, not proved from fmt's source: count such statements apart). THE CARD IS WHAT COUNTS. Prove the row's statement (the work); the ties are given (YtililoojjfcfgaaDoorTie.lean); close each card by the builder's one call (the guide's Derived/Test/ToyasCard.lean, 'card_holds'). Laid BY PROGRAM, IN A SANDBOX (cutbox-door.mjs). By AI agents, Wed Nov 11 2026. No macro, syntax, notation, axiom, sorry.
-/
import Derived.Test.YtililoojjfcfgaaDoorRows
import GoSem.ClaimSeven
namespace Go.Proofs.YtililoojjfcfgaaDoor
namespace Rows

/-- THE TIED CARD OF 'annalslaw13.RecordBack'. -/
def recordBackCard : Claim7 := { stood := { row := recordBackRow, standIns := [], harness := (true, "62f614b583ae58a00690d528ad2deb4c59e824c5c7c3b986848cb7562c534a69"), looks := false }, kinds := [], alts := [], laidByText := true, laidKinds := [.data, .data], laidTests := true, laidLooks := .later }
def RecordBackCardSaid : Prop := Claim7.holds Tryd.pinned (.plain (OpenSpec.ofChange recordBackSpec)) recordBackCard

/-- THE TIED CARD OF 'annalslaw19.FeedCuts'. -/
def feedCutsCard : Claim7 := { stood := { row := feedCutsRow, standIns := [], harness := (true, "62f614b583ae58a00690d528ad2deb4c59e824c5c7c3b986848cb7562c534a69"), looks := false }, kinds := [], alts := [], laidByText := true, laidKinds := [.data, .data], laidTests := true, laidLooks := .later }
def FeedCutsCardSaid : Prop := Claim7.holds Tryd.pinned (.plain (OpenSpec.ofChange feedCutsSpec)) feedCutsCard

/-- THE TIED CARD OF 'annalslaw06.MtsNew'. -/
def mtsNewCard : Claim7 := { stood := { row := mtsNewRow, standIns := [], harness := (true, "62f614b583ae58a00690d528ad2deb4c59e824c5c7c3b986848cb7562c534a69"), looks := false }, kinds := [], alts := [], laidByText := true, laidKinds := [.data, .data], laidTests := true, laidLooks := .later }
def MtsNewCardSaid : Prop := Claim7.holds Tryd.pinned (.plain (OpenSpec.ofChange mtsNewSpec)) mtsNewCard

/-- THE TIED CARD OF 'annalslaw19.FeedAny'. -/
def feedAnyCard : Claim7 := { stood := { row := feedAnyRow, standIns := [], harness := (true, "62f614b583ae58a00690d528ad2deb4c59e824c5c7c3b986848cb7562c534a69"), looks := false }, kinds := [], alts := [], laidByText := true, laidKinds := [.data, .data], laidTests := true, laidLooks := .later }
def FeedAnyCardSaid : Prop := Claim7.holds Tryd.pinned (.plain (OpenSpec.ofChange feedAnySpec)) feedAnyCard

/-- THE TIED CARD OF 'annalslaw13.RecordOpened'. -/
def recordOpenedCard : Claim7 := { stood := { row := recordOpenedRow, standIns := [], harness := (true, "62f614b583ae58a00690d528ad2deb4c59e824c5c7c3b986848cb7562c534a69"), looks := false }, kinds := [], alts := [], laidByText := true, laidKinds := [.data, .data], laidTests := true, laidLooks := .later }
def RecordOpenedCardSaid : Prop := Claim7.holds Tryd.pinned (.plain (OpenSpec.ofChange recordOpenedSpec)) recordOpenedCard

/-- THE TIED CARD OF 'annalslaw06.MtsNobody'. -/
def mtsNobodyCard : Claim7 := { stood := { row := mtsNobodyRow, standIns := [], harness := (true, "62f614b583ae58a00690d528ad2deb4c59e824c5c7c3b986848cb7562c534a69"), looks := false }, kinds := [], alts := [], laidByText := true, laidKinds := [.data, .data], laidTests := true, laidLooks := .later }
def MtsNobodyCardSaid : Prop := Claim7.holds Tryd.pinned (.plain (OpenSpec.ofChange mtsNobodySpec)) mtsNobodyCard

/-- THE TIED CARD OF 'annalslaw13.RecordBytes'. -/
def recordBytesCard : Claim7 := { stood := { row := recordBytesRow, standIns := [], harness := (true, "62f614b583ae58a00690d528ad2deb4c59e824c5c7c3b986848cb7562c534a69"), looks := false }, kinds := [], alts := [], laidByText := true, laidKinds := [.data, .data, .data, .data], laidTests := true, laidLooks := .later }
def RecordBytesCardSaid : Prop := Claim7.holds Tryd.pinned (.plain (OpenSpec.ofChange recordBytesSpec)) recordBytesCard

/-- THE TIED CARD OF 'annalslaw06.MtsKeys'. -/
def mtsKeysCard : Claim7 := { stood := { row := mtsKeysRow, standIns := [], harness := (true, "62f614b583ae58a00690d528ad2deb4c59e824c5c7c3b986848cb7562c534a69"), looks := false }, kinds := [], alts := [], laidByText := true, laidKinds := [.data, .data], laidTests := true, laidLooks := .later }
def MtsKeysCardSaid : Prop := Claim7.holds Tryd.pinned (.plain (OpenSpec.ofChange mtsKeysSpec)) mtsKeysCard

/-- THE TIED CARD OF 'annalslaw06.MtsVerifies'. -/
def mtsVerifiesCard : Claim7 := { stood := { row := mtsVerifiesRow, standIns := [], harness := (true, "62f614b583ae58a00690d528ad2deb4c59e824c5c7c3b986848cb7562c534a69"), looks := false }, kinds := [], alts := [], laidByText := true, laidKinds := [.data, .data], laidTests := true, laidLooks := .later }
def MtsVerifiesCardSaid : Prop := Claim7.holds Tryd.pinned (.plain (OpenSpec.ofChange mtsVerifiesSpec)) mtsVerifiesCard

/-- THE TIED CARD OF 'annalslaw06.MtsBack'. -/
def mtsBackCard : Claim7 := { stood := { row := mtsBackRow, standIns := [], harness := (true, "62f614b583ae58a00690d528ad2deb4c59e824c5c7c3b986848cb7562c534a69"), looks := false }, kinds := [], alts := [], laidByText := true, laidKinds := [.data, .data], laidTests := true, laidLooks := .later }
def MtsBackCardSaid : Prop := Claim7.holds Tryd.pinned (.plain (OpenSpec.ofChange mtsBackSpec)) mtsBackCard

/-- THE TIED CARD OF 'annalslaw06.MtsBytes'. -/
def mtsBytesCard : Claim7 := { stood := { row := mtsBytesRow, standIns := [], harness := (true, "62f614b583ae58a00690d528ad2deb4c59e824c5c7c3b986848cb7562c534a69"), looks := false }, kinds := [], alts := [], laidByText := true, laidKinds := [.data, .data], laidTests := true, laidLooks := .later }
def MtsBytesCardSaid : Prop := Claim7.holds Tryd.pinned (.plain (OpenSpec.ofChange mtsBytesSpec)) mtsBytesCard

/-- THE SECOND FORM's CARD OF 'annalslaw13.RecordBack'. -/
def recordBackUptoCard : Claim7 := { stood := { row := recordBackUptoRow, standIns := [], harness := (true, "62f614b583ae58a00690d528ad2deb4c59e824c5c7c3b986848cb7562c534a69"), looks := false }, kinds := [], alts := [], laidByText := true, laidKinds := [.data, .data], laidTests := true, laidLooks := .later }
def RecordBackUptoCardSaid : Prop := Claim7.holds Tryd.pinned (.plain (OpenSpec.upto recordBackSpec)) recordBackUptoCard

/-- THE SECOND FORM's CARD OF 'annalslaw19.FeedCuts'. -/
def feedCutsUptoCard : Claim7 := { stood := { row := feedCutsUptoRow, standIns := [], harness := (true, "62f614b583ae58a00690d528ad2deb4c59e824c5c7c3b986848cb7562c534a69"), looks := false }, kinds := [], alts := [], laidByText := true, laidKinds := [.data, .data], laidTests := true, laidLooks := .later }
def FeedCutsUptoCardSaid : Prop := Claim7.holds Tryd.pinned (.plain (OpenSpec.upto feedCutsSpec)) feedCutsUptoCard

/-- THE SECOND FORM's CARD OF 'annalslaw06.MtsNew'. -/
def mtsNewUptoCard : Claim7 := { stood := { row := mtsNewUptoRow, standIns := [], harness := (true, "62f614b583ae58a00690d528ad2deb4c59e824c5c7c3b986848cb7562c534a69"), looks := false }, kinds := [], alts := [], laidByText := true, laidKinds := [.data, .data], laidTests := true, laidLooks := .later }
def MtsNewUptoCardSaid : Prop := Claim7.holds Tryd.pinned (.plain (OpenSpec.upto mtsNewSpec)) mtsNewUptoCard

/-- THE SECOND FORM's CARD OF 'annalslaw19.FeedAny'. -/
def feedAnyUptoCard : Claim7 := { stood := { row := feedAnyUptoRow, standIns := [], harness := (true, "62f614b583ae58a00690d528ad2deb4c59e824c5c7c3b986848cb7562c534a69"), looks := false }, kinds := [], alts := [], laidByText := true, laidKinds := [.data, .data], laidTests := true, laidLooks := .later }
def FeedAnyUptoCardSaid : Prop := Claim7.holds Tryd.pinned (.plain (OpenSpec.upto feedAnySpec)) feedAnyUptoCard

/-- THE SECOND FORM's CARD OF 'annalslaw13.RecordOpened'. -/
def recordOpenedUptoCard : Claim7 := { stood := { row := recordOpenedUptoRow, standIns := [], harness := (true, "62f614b583ae58a00690d528ad2deb4c59e824c5c7c3b986848cb7562c534a69"), looks := false }, kinds := [], alts := [], laidByText := true, laidKinds := [.data, .data], laidTests := true, laidLooks := .later }
def RecordOpenedUptoCardSaid : Prop := Claim7.holds Tryd.pinned (.plain (OpenSpec.upto recordOpenedSpec)) recordOpenedUptoCard

/-- THE SECOND FORM's CARD OF 'annalslaw06.MtsNobody'. -/
def mtsNobodyUptoCard : Claim7 := { stood := { row := mtsNobodyUptoRow, standIns := [], harness := (true, "62f614b583ae58a00690d528ad2deb4c59e824c5c7c3b986848cb7562c534a69"), looks := false }, kinds := [], alts := [], laidByText := true, laidKinds := [.data, .data], laidTests := true, laidLooks := .later }
def MtsNobodyUptoCardSaid : Prop := Claim7.holds Tryd.pinned (.plain (OpenSpec.upto mtsNobodySpec)) mtsNobodyUptoCard

/-- THE SECOND FORM's CARD OF 'annalslaw13.RecordBytes'. -/
def recordBytesUptoCard : Claim7 := { stood := { row := recordBytesUptoRow, standIns := [], harness := (true, "62f614b583ae58a00690d528ad2deb4c59e824c5c7c3b986848cb7562c534a69"), looks := false }, kinds := [], alts := [], laidByText := true, laidKinds := [.data, .data, .data, .data], laidTests := true, laidLooks := .later }
def RecordBytesUptoCardSaid : Prop := Claim7.holds Tryd.pinned (.plain (OpenSpec.upto recordBytesSpec)) recordBytesUptoCard

/-- THE SECOND FORM's CARD OF 'annalslaw06.MtsKeys'. -/
def mtsKeysUptoCard : Claim7 := { stood := { row := mtsKeysUptoRow, standIns := [], harness := (true, "62f614b583ae58a00690d528ad2deb4c59e824c5c7c3b986848cb7562c534a69"), looks := false }, kinds := [], alts := [], laidByText := true, laidKinds := [.data, .data], laidTests := true, laidLooks := .later }
def MtsKeysUptoCardSaid : Prop := Claim7.holds Tryd.pinned (.plain (OpenSpec.upto mtsKeysSpec)) mtsKeysUptoCard

/-- THE SECOND FORM's CARD OF 'annalslaw06.MtsVerifies'. -/
def mtsVerifiesUptoCard : Claim7 := { stood := { row := mtsVerifiesUptoRow, standIns := [], harness := (true, "62f614b583ae58a00690d528ad2deb4c59e824c5c7c3b986848cb7562c534a69"), looks := false }, kinds := [], alts := [], laidByText := true, laidKinds := [.data, .data], laidTests := true, laidLooks := .later }
def MtsVerifiesUptoCardSaid : Prop := Claim7.holds Tryd.pinned (.plain (OpenSpec.upto mtsVerifiesSpec)) mtsVerifiesUptoCard

/-- THE SECOND FORM's CARD OF 'annalslaw06.MtsBack'. -/
def mtsBackUptoCard : Claim7 := { stood := { row := mtsBackUptoRow, standIns := [], harness := (true, "62f614b583ae58a00690d528ad2deb4c59e824c5c7c3b986848cb7562c534a69"), looks := false }, kinds := [], alts := [], laidByText := true, laidKinds := [.data, .data], laidTests := true, laidLooks := .later }
def MtsBackUptoCardSaid : Prop := Claim7.holds Tryd.pinned (.plain (OpenSpec.upto mtsBackSpec)) mtsBackUptoCard

/-- THE SECOND FORM's CARD OF 'annalslaw06.MtsBytes'. -/
def mtsBytesUptoCard : Claim7 := { stood := { row := mtsBytesUptoRow, standIns := [], harness := (true, "62f614b583ae58a00690d528ad2deb4c59e824c5c7c3b986848cb7562c534a69"), looks := false }, kinds := [], alts := [], laidByText := true, laidKinds := [.data, .data], laidTests := true, laidLooks := .later }
def MtsBytesUptoCardSaid : Prop := Claim7.holds Tryd.pinned (.plain (OpenSpec.upto mtsBytesSpec)) mtsBytesUptoCard
end Rows
end Go.Proofs.YtililoojjfcfgaaDoor
