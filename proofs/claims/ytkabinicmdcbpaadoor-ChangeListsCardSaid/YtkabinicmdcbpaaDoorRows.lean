/-
  NARROWER THAN 'FOR EVERY INPUT', by the rows' own cells (each row's printed sentence says how): WotsWalks: laid · WotsSigns: laid · WotsBack: laid · MerkleFew: laid · MerkleBack: laid · ChangeLists: laid · MtsNew: laid · MtsNobody: laid · MtsVerifies: laid · MtsBack: laid · MtsKeys: laid · MtsBytes: laid.
  DERIVED. THE GIVEN ROWS OF THIS SEAT. 12 by the template 'for every input the law returns true; each argument reads behind the call as it read before'; 0 by the template 'total and deterministic' (their statements: YtkabinicmdcbpaaDoorTotals.lean).
  GIVEN WITH THE SEED: the statements are not yours to turn. If you find one false, say at which input.
  Laid BY PROGRAM, IN A SANDBOX (cutbox-rows.mjs): the forced cells as the released guide's own fill.sh prints them over the translation b7cab85c2677a4fb… (all of the seat's roots in one cut). By AI agents, Wed Nov 11 2026. No macro, syntax, notation, axiom, sorry.
-/
import Derived.Test.YtkabinicmdcbpaaDoorChecked
import GoSem.Claim
import GoSem.ClaimJoined
import GoSem.ClaimMapViews
import Derived.JoinedTies
import Derived.KernelRfl
namespace Go.Proofs.YtkabinicmdcbpaaDoor
/- THE CELL 'sum', in the pinned program and in every row, IS THE sha256 OF THE DUMP (.gsa) THAT YtkabinicmdcbpaaDoorProg.lean LOADS. Nothing in Lean hashes anything: it is a label: what it is worth is what the hold of that sum in a sandbox is worth. -/
noncomputable def Tryd.pinned : Pinned := { name := "ytkabinicmdcbpaadoor", sum := "b7cab85c2677a4fbb8f0d3792ed913c00d415d5a8570881c9d55e1a2100a9662", checked := Tryd.checked }
namespace Rows
def none {H : Type} : Left H := { results := [], args := [] }

/- WHAT THE LISTED PACKAGE-LEVEL VARIABLES READ AS WHEN THE CALL BEGINS. Each datum BY PROGRAM (the guide's laid-datum.mjs) off the statement by which the dump's own 'gosem.cut.vars' lays the variable. In a bare row this is a premise. The card (YtkabinicmdcbpaaDoorCards.lean) ties it to the program's text. -/
def laid_annals_sha_first {H : Type} : DataW H := .agg [.lit (.int .u32 1779033703), .lit (.int .u32 3144134277), .lit (.int .u32 1013904242), .lit (.int .u32 2773480762), .lit (.int .u32 1359893119), .lit (.int .u32 2600822924), .lit (.int .u32 528734635), .lit (.int .u32 1541459225)]
def laid_annals_sha_added {H : Type} : DataW H := .agg [.lit (.int .u32 1116352408), .lit (.int .u32 1899447441), .lit (.int .u32 3049323471), .lit (.int .u32 3921009573), .lit (.int .u32 961987163), .lit (.int .u32 1508970993), .lit (.int .u32 2453635748), .lit (.int .u32 2870763221), .lit (.int .u32 3624381080), .lit (.int .u32 310598401), .lit (.int .u32 607225278), .lit (.int .u32 1426881987), .lit (.int .u32 1925078388), .lit (.int .u32 2162078206), .lit (.int .u32 2614888103), .lit (.int .u32 3248222580), .lit (.int .u32 3835390401), .lit (.int .u32 4022224774), .lit (.int .u32 264347078), .lit (.int .u32 604807628), .lit (.int .u32 770255983), .lit (.int .u32 1249150122), .lit (.int .u32 1555081692), .lit (.int .u32 1996064986), .lit (.int .u32 2554220882), .lit (.int .u32 2821834349), .lit (.int .u32 2952996808), .lit (.int .u32 3210313671), .lit (.int .u32 3336571891), .lit (.int .u32 3584528711), .lit (.int .u32 113926993), .lit (.int .u32 338241895), .lit (.int .u32 666307205), .lit (.int .u32 773529912), .lit (.int .u32 1294757372), .lit (.int .u32 1396182291), .lit (.int .u32 1695183700), .lit (.int .u32 1986661051), .lit (.int .u32 2177026350), .lit (.int .u32 2456956037), .lit (.int .u32 2730485921), .lit (.int .u32 2820302411), .lit (.int .u32 3259730800), .lit (.int .u32 3345764771), .lit (.int .u32 3516065817), .lit (.int .u32 3600352804), .lit (.int .u32 4094571909), .lit (.int .u32 275423344), .lit (.int .u32 430227734), .lit (.int .u32 506948616), .lit (.int .u32 659060556), .lit (.int .u32 883997877), .lit (.int .u32 958139571), .lit (.int .u32 1322822218), .lit (.int .u32 1537002063), .lit (.int .u32 1747873779), .lit (.int .u32 1955562222), .lit (.int .u32 2024104815), .lit (.int .u32 2227730452), .lit (.int .u32 2361852424), .lit (.int .u32 2428436474), .lit (.int .u32 2756734187), .lit (.int .u32 3204031479), .lit (.int .u32 3329325298)]

/-- 'annalslaw05.WotsWalks': WHATEVER THE INPUT: true; the input reads as it did. -/
def wotsWalksSpec : ChangeSpec := { name := "wotsWalks", fn := fun _ => fun
  | [d1, d2, d3, d4, d5] => { results := [.lit (.bool true)], args := [d1, d2, d3, d4, d5] }
  | _ => none }
def wotsWalksRow : OpenClaim := { program := "ytkabinicmdcbpaadoor", sum := "b7cab85c2677a4fbb8f0d3792ed913c00d415d5a8570881c9d55e1a2100a9662", func := "annals/annalslaw05.WotsWalks", spec := "wotsWalks", unfollowed := true, recurses := true, named := ["annals/sha.first", "annals/sha.added"], apart := false, laid := [("annals/sha.first", laid_annals_sha_first), ("annals/sha.added", laid_annals_sha_added)] }
def WotsWalksSaid : Prop := wotsWalksRow.holds Tryd.pinned (OpenSpec.ofChange wotsWalksSpec)

/-- ITS FALSE NEIGHBOUR: 'it returns false'. Refute it at one input. -/
def wotsWalksWrong : ChangeSpec := { name := "wotsWalks", fn := fun _ => fun
  | [d1, d2, d3, d4, d5] => { results := [.lit (.bool false)], args := [d1, d2, d3, d4, d5] }
  | _ => none }
def WotsWalksWrongFalsely : Prop := wotsWalksRow.holds Tryd.pinned (OpenSpec.ofChange wotsWalksWrong)

/-- 'annalslaw05.WotsSigns': WHATEVER THE INPUT: true; the input reads as it did. -/
def wotsSignsSpec : ChangeSpec := { name := "wotsSigns", fn := fun _ => fun
  | [d1, d2, d3, d4, d5] => { results := [.lit (.bool true)], args := [d1, d2, d3, d4, d5] }
  | _ => none }
def wotsSignsRow : OpenClaim := { program := "ytkabinicmdcbpaadoor", sum := "b7cab85c2677a4fbb8f0d3792ed913c00d415d5a8570881c9d55e1a2100a9662", func := "annals/annalslaw05.WotsSigns", spec := "wotsSigns", unfollowed := true, recurses := true, named := ["annals/sha.first", "annals/sha.added"], apart := false, laid := [("annals/sha.first", laid_annals_sha_first), ("annals/sha.added", laid_annals_sha_added)] }
def WotsSignsSaid : Prop := wotsSignsRow.holds Tryd.pinned (OpenSpec.ofChange wotsSignsSpec)

/-- ITS FALSE NEIGHBOUR: 'it returns false'. Refute it at one input. -/
def wotsSignsWrong : ChangeSpec := { name := "wotsSigns", fn := fun _ => fun
  | [d1, d2, d3, d4, d5] => { results := [.lit (.bool false)], args := [d1, d2, d3, d4, d5] }
  | _ => none }
def WotsSignsWrongFalsely : Prop := wotsSignsRow.holds Tryd.pinned (OpenSpec.ofChange wotsSignsWrong)

/-- 'annalslaw05.WotsBack': WHATEVER THE INPUT: true; the input reads as it did. -/
def wotsBackSpec : ChangeSpec := { name := "wotsBack", fn := fun _ => fun
  | [d1, d2, d3, d4] => { results := [.lit (.bool true)], args := [d1, d2, d3, d4] }
  | _ => none }
def wotsBackRow : OpenClaim := { program := "ytkabinicmdcbpaadoor", sum := "b7cab85c2677a4fbb8f0d3792ed913c00d415d5a8570881c9d55e1a2100a9662", func := "annals/annalslaw05.WotsBack", spec := "wotsBack", unfollowed := true, recurses := true, named := ["annals/sha.first", "annals/sha.added"], apart := false, laid := [("annals/sha.first", laid_annals_sha_first), ("annals/sha.added", laid_annals_sha_added)] }
def WotsBackSaid : Prop := wotsBackRow.holds Tryd.pinned (OpenSpec.ofChange wotsBackSpec)

/-- ITS FALSE NEIGHBOUR: 'it returns false'. Refute it at one input. -/
def wotsBackWrong : ChangeSpec := { name := "wotsBack", fn := fun _ => fun
  | [d1, d2, d3, d4] => { results := [.lit (.bool false)], args := [d1, d2, d3, d4] }
  | _ => none }
def WotsBackWrongFalsely : Prop := wotsBackRow.holds Tryd.pinned (OpenSpec.ofChange wotsBackWrong)

/-- 'annalslaw11.MerkleFew': WHATEVER THE INPUT: true; the input reads as it did. -/
def merkleFewSpec : ChangeSpec := { name := "merkleFew", fn := fun _ => fun
  | [d1, d2, d3] => { results := [.lit (.bool true)], args := [d1, d2, d3] }
  | _ => none }
def merkleFewRow : OpenClaim := { program := "ytkabinicmdcbpaadoor", sum := "b7cab85c2677a4fbb8f0d3792ed913c00d415d5a8570881c9d55e1a2100a9662", func := "annals/annalslaw11.MerkleFew", spec := "merkleFew", unfollowed := true, recurses := true, named := ["annals/sha.first", "annals/sha.added"], apart := false, laid := [("annals/sha.first", laid_annals_sha_first), ("annals/sha.added", laid_annals_sha_added)] }
def MerkleFewSaid : Prop := merkleFewRow.holds Tryd.pinned (OpenSpec.ofChange merkleFewSpec)

/-- ITS FALSE NEIGHBOUR: 'it returns false'. Refute it at one input. -/
def merkleFewWrong : ChangeSpec := { name := "merkleFew", fn := fun _ => fun
  | [d1, d2, d3] => { results := [.lit (.bool false)], args := [d1, d2, d3] }
  | _ => none }
def MerkleFewWrongFalsely : Prop := merkleFewRow.holds Tryd.pinned (OpenSpec.ofChange merkleFewWrong)

/-- 'annalslaw11.MerkleBack': WHATEVER THE INPUT: true; the input reads as it did. -/
def merkleBackSpec : ChangeSpec := { name := "merkleBack", fn := fun _ => fun
  | [d1, d2, d3] => { results := [.lit (.bool true)], args := [d1, d2, d3] }
  | _ => none }
def merkleBackRow : OpenClaim := { program := "ytkabinicmdcbpaadoor", sum := "b7cab85c2677a4fbb8f0d3792ed913c00d415d5a8570881c9d55e1a2100a9662", func := "annals/annalslaw11.MerkleBack", spec := "merkleBack", unfollowed := true, recurses := true, named := ["annals/sha.first", "annals/sha.added"], apart := false, laid := [("annals/sha.first", laid_annals_sha_first), ("annals/sha.added", laid_annals_sha_added)] }
def MerkleBackSaid : Prop := merkleBackRow.holds Tryd.pinned (OpenSpec.ofChange merkleBackSpec)

/-- ITS FALSE NEIGHBOUR: 'it returns false'. Refute it at one input. -/
def merkleBackWrong : ChangeSpec := { name := "merkleBack", fn := fun _ => fun
  | [d1, d2, d3] => { results := [.lit (.bool false)], args := [d1, d2, d3] }
  | _ => none }
def MerkleBackWrongFalsely : Prop := merkleBackRow.holds Tryd.pinned (OpenSpec.ofChange merkleBackWrong)

/-- 'annalslaw12.ChangeLists': WHATEVER THE INPUT: true; the input reads as it did. -/
def changeListsSpec : ChangeSpec := { name := "changeLists", fn := fun _ => fun
  | [d1, d2, d3] => { results := [.lit (.bool true)], args := [d1, d2, d3] }
  | _ => none }
def changeListsRow : OpenClaim := { program := "ytkabinicmdcbpaadoor", sum := "b7cab85c2677a4fbb8f0d3792ed913c00d415d5a8570881c9d55e1a2100a9662", func := "annals/annalslaw12.ChangeLists", spec := "changeLists", unfollowed := true, recurses := true, named := ["annals/sha.first", "annals/sha.added"], apart := false, laid := [("annals/sha.first", laid_annals_sha_first), ("annals/sha.added", laid_annals_sha_added)] }
def ChangeListsSaid : Prop := changeListsRow.holds Tryd.pinned (OpenSpec.ofChange changeListsSpec)

/-- ITS FALSE NEIGHBOUR: 'it returns false'. Refute it at one input. -/
def changeListsWrong : ChangeSpec := { name := "changeLists", fn := fun _ => fun
  | [d1, d2, d3] => { results := [.lit (.bool false)], args := [d1, d2, d3] }
  | _ => none }
def ChangeListsWrongFalsely : Prop := changeListsRow.holds Tryd.pinned (OpenSpec.ofChange changeListsWrong)

/-- 'annalslaw06.MtsNew': WHATEVER THE INPUT: true; the input reads as it did. -/
def mtsNewSpec : ChangeSpec := { name := "mtsNew", fn := fun _ => fun
  | [d1, d2, d3] => { results := [.lit (.bool true)], args := [d1, d2, d3] }
  | _ => none }
def mtsNewRow : OpenClaim := { program := "ytkabinicmdcbpaadoor", sum := "b7cab85c2677a4fbb8f0d3792ed913c00d415d5a8570881c9d55e1a2100a9662", func := "annals/annalslaw06.MtsNew", spec := "mtsNew", inPlace := ["sync/atomic.LoadUint32", "(*internal/sync.Mutex).Lock", "internal/race.Disable", "sync/atomic.CompareAndSwapInt32", "internal/race.Enable", "internal/race.Acquire", "(*internal/sync.Mutex).lockSlow", "internal/sync.runtime_canSpin", "internal/sync.runtime_doSpin", "internal/sync.throw", "internal/sync.runtime_nanotime", "internal/sync.runtime_SemacquireMutex", "sync/atomic.AddInt32", "(*internal/sync.Mutex).Unlock", "internal/race.ReleaseMerge", "(*internal/sync.Mutex).unlockSlow", "internal/sync.fatal", "internal/sync.runtime_Semrelease", "sync/atomic.StoreUint32"], unfollowed := true, recurses := true, named := ["annals/sha.first", "annals/sha.added"], apart := false, laid := [("annals/sha.first", laid_annals_sha_first), ("annals/sha.added", laid_annals_sha_added)] }
def MtsNewSaid : Prop := mtsNewRow.holds Tryd.pinned (OpenSpec.ofChange mtsNewSpec)

/-- ITS FALSE NEIGHBOUR: 'it returns false'. Refute it at one input. -/
def mtsNewWrong : ChangeSpec := { name := "mtsNew", fn := fun _ => fun
  | [d1, d2, d3] => { results := [.lit (.bool false)], args := [d1, d2, d3] }
  | _ => none }
def MtsNewWrongFalsely : Prop := mtsNewRow.holds Tryd.pinned (OpenSpec.ofChange mtsNewWrong)

/-- 'annalslaw06.MtsNobody': WHATEVER THE INPUT: true; the input reads as it did. -/
def mtsNobodySpec : ChangeSpec := { name := "mtsNobody", fn := fun _ => fun
  | [d1, d2] => { results := [.lit (.bool true)], args := [d1, d2] }
  | _ => none }
def mtsNobodyRow : OpenClaim := { program := "ytkabinicmdcbpaadoor", sum := "b7cab85c2677a4fbb8f0d3792ed913c00d415d5a8570881c9d55e1a2100a9662", func := "annals/annalslaw06.MtsNobody", spec := "mtsNobody", inPlace := ["sync/atomic.LoadUint32", "(*internal/sync.Mutex).Lock", "internal/race.Disable", "sync/atomic.CompareAndSwapInt32", "internal/race.Enable", "internal/race.Acquire", "(*internal/sync.Mutex).lockSlow", "internal/sync.runtime_canSpin", "internal/sync.runtime_doSpin", "internal/sync.throw", "internal/sync.runtime_nanotime", "internal/sync.runtime_SemacquireMutex", "sync/atomic.AddInt32", "(*internal/sync.Mutex).Unlock", "internal/race.ReleaseMerge", "(*internal/sync.Mutex).unlockSlow", "internal/sync.fatal", "internal/sync.runtime_Semrelease", "sync/atomic.StoreUint32"], unfollowed := true, recurses := true, named := ["annals/sha.first", "annals/sha.added"], apart := false, laid := [("annals/sha.first", laid_annals_sha_first), ("annals/sha.added", laid_annals_sha_added)] }
def MtsNobodySaid : Prop := mtsNobodyRow.holds Tryd.pinned (OpenSpec.ofChange mtsNobodySpec)

/-- ITS FALSE NEIGHBOUR: 'it returns false'. Refute it at one input. -/
def mtsNobodyWrong : ChangeSpec := { name := "mtsNobody", fn := fun _ => fun
  | [d1, d2] => { results := [.lit (.bool false)], args := [d1, d2] }
  | _ => none }
def MtsNobodyWrongFalsely : Prop := mtsNobodyRow.holds Tryd.pinned (OpenSpec.ofChange mtsNobodyWrong)

/-- 'annalslaw06.MtsVerifies': WHATEVER THE INPUT: true; the input reads as it did. -/
def mtsVerifiesSpec : ChangeSpec := { name := "mtsVerifies", fn := fun _ => fun
  | [d1, d2, d3, d4, d5] => { results := [.lit (.bool true)], args := [d1, d2, d3, d4, d5] }
  | _ => none }
def mtsVerifiesRow : OpenClaim := { program := "ytkabinicmdcbpaadoor", sum := "b7cab85c2677a4fbb8f0d3792ed913c00d415d5a8570881c9d55e1a2100a9662", func := "annals/annalslaw06.MtsVerifies", spec := "mtsVerifies", inPlace := ["sync/atomic.LoadUint32", "(*internal/sync.Mutex).Lock", "internal/race.Disable", "sync/atomic.CompareAndSwapInt32", "internal/race.Enable", "internal/race.Acquire", "(*internal/sync.Mutex).lockSlow", "internal/sync.runtime_canSpin", "internal/sync.runtime_doSpin", "internal/sync.throw", "internal/sync.runtime_nanotime", "internal/sync.runtime_SemacquireMutex", "sync/atomic.AddInt32", "(*internal/sync.Mutex).Unlock", "internal/race.ReleaseMerge", "(*internal/sync.Mutex).unlockSlow", "internal/sync.fatal", "internal/sync.runtime_Semrelease", "sync/atomic.StoreUint32"], unfollowed := true, recurses := true, named := ["annals/sha.first", "annals/sha.added"], apart := false, laid := [("annals/sha.first", laid_annals_sha_first), ("annals/sha.added", laid_annals_sha_added)] }
def MtsVerifiesSaid : Prop := mtsVerifiesRow.holds Tryd.pinned (OpenSpec.ofChange mtsVerifiesSpec)

/-- ITS FALSE NEIGHBOUR: 'it returns false'. Refute it at one input. -/
def mtsVerifiesWrong : ChangeSpec := { name := "mtsVerifies", fn := fun _ => fun
  | [d1, d2, d3, d4, d5] => { results := [.lit (.bool false)], args := [d1, d2, d3, d4, d5] }
  | _ => none }
def MtsVerifiesWrongFalsely : Prop := mtsVerifiesRow.holds Tryd.pinned (OpenSpec.ofChange mtsVerifiesWrong)

/-- 'annalslaw06.MtsBack': WHATEVER THE INPUT: true; the input reads as it did. -/
def mtsBackSpec : ChangeSpec := { name := "mtsBack", fn := fun _ => fun
  | [d1, d2, d3, d4, d5, d6] => { results := [.lit (.bool true)], args := [d1, d2, d3, d4, d5, d6] }
  | _ => none }
def mtsBackRow : OpenClaim := { program := "ytkabinicmdcbpaadoor", sum := "b7cab85c2677a4fbb8f0d3792ed913c00d415d5a8570881c9d55e1a2100a9662", func := "annals/annalslaw06.MtsBack", spec := "mtsBack", inPlace := ["sync/atomic.LoadUint32", "(*internal/sync.Mutex).Lock", "internal/race.Disable", "sync/atomic.CompareAndSwapInt32", "internal/race.Enable", "internal/race.Acquire", "(*internal/sync.Mutex).lockSlow", "internal/sync.runtime_canSpin", "internal/sync.runtime_doSpin", "internal/sync.throw", "internal/sync.runtime_nanotime", "internal/sync.runtime_SemacquireMutex", "sync/atomic.AddInt32", "(*internal/sync.Mutex).Unlock", "internal/race.ReleaseMerge", "(*internal/sync.Mutex).unlockSlow", "internal/sync.fatal", "internal/sync.runtime_Semrelease", "sync/atomic.StoreUint32"], unfollowed := true, recurses := true, named := ["annals/sha.first", "annals/sha.added"], apart := false, laid := [("annals/sha.first", laid_annals_sha_first), ("annals/sha.added", laid_annals_sha_added)] }
def MtsBackSaid : Prop := mtsBackRow.holds Tryd.pinned (OpenSpec.ofChange mtsBackSpec)

/-- ITS FALSE NEIGHBOUR: 'it returns false'. Refute it at one input. -/
def mtsBackWrong : ChangeSpec := { name := "mtsBack", fn := fun _ => fun
  | [d1, d2, d3, d4, d5, d6] => { results := [.lit (.bool false)], args := [d1, d2, d3, d4, d5, d6] }
  | _ => none }
def MtsBackWrongFalsely : Prop := mtsBackRow.holds Tryd.pinned (OpenSpec.ofChange mtsBackWrong)

/-- 'annalslaw06.MtsKeys': WHATEVER THE INPUT: true; the input reads as it did. -/
def mtsKeysSpec : ChangeSpec := { name := "mtsKeys", fn := fun _ => fun
  | [d1, d2, d3, d4, d5] => { results := [.lit (.bool true)], args := [d1, d2, d3, d4, d5] }
  | _ => none }
def mtsKeysRow : OpenClaim := { program := "ytkabinicmdcbpaadoor", sum := "b7cab85c2677a4fbb8f0d3792ed913c00d415d5a8570881c9d55e1a2100a9662", func := "annals/annalslaw06.MtsKeys", spec := "mtsKeys", inPlace := ["sync/atomic.LoadUint32", "(*internal/sync.Mutex).Lock", "internal/race.Disable", "sync/atomic.CompareAndSwapInt32", "internal/race.Enable", "internal/race.Acquire", "(*internal/sync.Mutex).lockSlow", "internal/sync.runtime_canSpin", "internal/sync.runtime_doSpin", "internal/sync.throw", "internal/sync.runtime_nanotime", "internal/sync.runtime_SemacquireMutex", "sync/atomic.AddInt32", "(*internal/sync.Mutex).Unlock", "internal/race.ReleaseMerge", "(*internal/sync.Mutex).unlockSlow", "internal/sync.fatal", "internal/sync.runtime_Semrelease", "sync/atomic.StoreUint32"], unfollowed := true, recurses := true, named := ["annals/sha.first", "annals/sha.added"], apart := false, laid := [("annals/sha.first", laid_annals_sha_first), ("annals/sha.added", laid_annals_sha_added)] }
def MtsKeysSaid : Prop := mtsKeysRow.holds Tryd.pinned (OpenSpec.ofChange mtsKeysSpec)

/-- ITS FALSE NEIGHBOUR: 'it returns false'. Refute it at one input. -/
def mtsKeysWrong : ChangeSpec := { name := "mtsKeys", fn := fun _ => fun
  | [d1, d2, d3, d4, d5] => { results := [.lit (.bool false)], args := [d1, d2, d3, d4, d5] }
  | _ => none }
def MtsKeysWrongFalsely : Prop := mtsKeysRow.holds Tryd.pinned (OpenSpec.ofChange mtsKeysWrong)

/-- 'annalslaw06.MtsBytes': WHATEVER THE INPUT: true; the input reads as it did. -/
def mtsBytesSpec : ChangeSpec := { name := "mtsBytes", fn := fun _ => fun
  | [d1, d2, d3, d4] => { results := [.lit (.bool true)], args := [d1, d2, d3, d4] }
  | _ => none }
def mtsBytesRow : OpenClaim := { program := "ytkabinicmdcbpaadoor", sum := "b7cab85c2677a4fbb8f0d3792ed913c00d415d5a8570881c9d55e1a2100a9662", func := "annals/annalslaw06.MtsBytes", spec := "mtsBytes", inPlace := ["sync/atomic.LoadUint32", "(*internal/sync.Mutex).Lock", "internal/race.Disable", "sync/atomic.CompareAndSwapInt32", "internal/race.Enable", "internal/race.Acquire", "(*internal/sync.Mutex).lockSlow", "internal/sync.runtime_canSpin", "internal/sync.runtime_doSpin", "internal/sync.throw", "internal/sync.runtime_nanotime", "internal/sync.runtime_SemacquireMutex", "sync/atomic.AddInt32", "(*internal/sync.Mutex).Unlock", "internal/race.ReleaseMerge", "(*internal/sync.Mutex).unlockSlow", "internal/sync.fatal", "internal/sync.runtime_Semrelease", "sync/atomic.StoreUint32"], unfollowed := true, recurses := true, named := ["annals/sha.first", "annals/sha.added"], apart := false, laid := [("annals/sha.first", laid_annals_sha_first), ("annals/sha.added", laid_annals_sha_added)] }
def MtsBytesSaid : Prop := mtsBytesRow.holds Tryd.pinned (OpenSpec.ofChange mtsBytesSpec)

/-- ITS FALSE NEIGHBOUR: 'it returns false'. Refute it at one input. -/
def mtsBytesWrong : ChangeSpec := { name := "mtsBytes", fn := fun _ => fun
  | [d1, d2, d3, d4] => { results := [.lit (.bool false)], args := [d1, d2, d3, d4] }
  | _ => none }
def MtsBytesWrongFalsely : Prop := mtsBytesRow.holds Tryd.pinned (OpenSpec.ofChange mtsBytesWrong)

/- THE SECOND FORM. 'bulk': how many values and letters a reading holds, each counted each time it is reached (what is shared counts as often as it is met; a slice's spare places count too). A statement '..UptoSaid' is the law's where the arguments, and the package variables that the reading takes, are together of bulk at most 1048576: NARROWER than '..Said'. Prove '..Said' where nothing that the law and all that it calls make is longer than what came in: it says more and counts as full. Else prove '..UptoSaid'. A law counts once. -/
mutual
def uptoBulk {H : Type} : DataW H → Nat
  | .lit (.string bytes) => bytes.length + 1
  | .lit _ => 1
  | .nil => 1
  | .ptr d => uptoBulk d + 1
  | .slice elems spare => uptoBulkAll elems + uptoBulkAll spare + 1
  | .agg parts => uptoBulkAll parts + 1
  | .iface _ d => uptoBulk d + 1
  | .map entries => uptoBulkEntries entries + 1
  | .held _ => 1
def uptoBulkAll {H : Type} : List (DataW H) → Nat
  | [] => 0
  | d :: r => uptoBulk d + uptoBulkAll r
def uptoBulkEntries {H : Type} : List (Lit × DataW H) → Nat
  | [] => 0
  | x :: r => uptoBulkEntry x + uptoBulkEntries r
def uptoBulkEntry {H : Type} : Lit × DataW H → Nat
  | (.string bytes, d) => bytes.length + uptoBulk d + 1
  | (_, d) => uptoBulk d + 1
 end
def uptoSmall : (H : Type) → List (DataW H) → Bool := fun _ ds => decide (uptoBulkAll ds ≤ 1048576)
def OpenSpec.upto (s : _root_.Go.ChangeSpec) : _root_.Go.OpenSpec := { _root_.Go.OpenSpec.ofChange s with cond := some uptoSmall }

/-- 'annalslaw05.WotsWalks', WHERE WHAT IT READS IS OF BULK AT MOST 1048576: true; the input reads as it did. -/
def wotsWalksUptoRow : OpenClaim := { program := "ytkabinicmdcbpaadoor", sum := "b7cab85c2677a4fbb8f0d3792ed913c00d415d5a8570881c9d55e1a2100a9662", func := "annals/annalslaw05.WotsWalks", spec := "wotsWalks", unfollowed := true, recurses := true, named := ["annals/sha.first", "annals/sha.added"], apart := false, laid := [("annals/sha.first", laid_annals_sha_first), ("annals/sha.added", laid_annals_sha_added)], narrowed := true }
def WotsWalksUptoSaid : Prop := wotsWalksUptoRow.holds Tryd.pinned (OpenSpec.upto wotsWalksSpec)

/-- 'annalslaw05.WotsSigns', WHERE WHAT IT READS IS OF BULK AT MOST 1048576: true; the input reads as it did. -/
def wotsSignsUptoRow : OpenClaim := { program := "ytkabinicmdcbpaadoor", sum := "b7cab85c2677a4fbb8f0d3792ed913c00d415d5a8570881c9d55e1a2100a9662", func := "annals/annalslaw05.WotsSigns", spec := "wotsSigns", unfollowed := true, recurses := true, named := ["annals/sha.first", "annals/sha.added"], apart := false, laid := [("annals/sha.first", laid_annals_sha_first), ("annals/sha.added", laid_annals_sha_added)], narrowed := true }
def WotsSignsUptoSaid : Prop := wotsSignsUptoRow.holds Tryd.pinned (OpenSpec.upto wotsSignsSpec)

/-- 'annalslaw05.WotsBack', WHERE WHAT IT READS IS OF BULK AT MOST 1048576: true; the input reads as it did. -/
def wotsBackUptoRow : OpenClaim := { program := "ytkabinicmdcbpaadoor", sum := "b7cab85c2677a4fbb8f0d3792ed913c00d415d5a8570881c9d55e1a2100a9662", func := "annals/annalslaw05.WotsBack", spec := "wotsBack", unfollowed := true, recurses := true, named := ["annals/sha.first", "annals/sha.added"], apart := false, laid := [("annals/sha.first", laid_annals_sha_first), ("annals/sha.added", laid_annals_sha_added)], narrowed := true }
def WotsBackUptoSaid : Prop := wotsBackUptoRow.holds Tryd.pinned (OpenSpec.upto wotsBackSpec)

/-- 'annalslaw11.MerkleFew', WHERE WHAT IT READS IS OF BULK AT MOST 1048576: true; the input reads as it did. -/
def merkleFewUptoRow : OpenClaim := { program := "ytkabinicmdcbpaadoor", sum := "b7cab85c2677a4fbb8f0d3792ed913c00d415d5a8570881c9d55e1a2100a9662", func := "annals/annalslaw11.MerkleFew", spec := "merkleFew", unfollowed := true, recurses := true, named := ["annals/sha.first", "annals/sha.added"], apart := false, laid := [("annals/sha.first", laid_annals_sha_first), ("annals/sha.added", laid_annals_sha_added)], narrowed := true }
def MerkleFewUptoSaid : Prop := merkleFewUptoRow.holds Tryd.pinned (OpenSpec.upto merkleFewSpec)

/-- 'annalslaw11.MerkleBack', WHERE WHAT IT READS IS OF BULK AT MOST 1048576: true; the input reads as it did. -/
def merkleBackUptoRow : OpenClaim := { program := "ytkabinicmdcbpaadoor", sum := "b7cab85c2677a4fbb8f0d3792ed913c00d415d5a8570881c9d55e1a2100a9662", func := "annals/annalslaw11.MerkleBack", spec := "merkleBack", unfollowed := true, recurses := true, named := ["annals/sha.first", "annals/sha.added"], apart := false, laid := [("annals/sha.first", laid_annals_sha_first), ("annals/sha.added", laid_annals_sha_added)], narrowed := true }
def MerkleBackUptoSaid : Prop := merkleBackUptoRow.holds Tryd.pinned (OpenSpec.upto merkleBackSpec)

/-- 'annalslaw12.ChangeLists', WHERE WHAT IT READS IS OF BULK AT MOST 1048576: true; the input reads as it did. -/
def changeListsUptoRow : OpenClaim := { program := "ytkabinicmdcbpaadoor", sum := "b7cab85c2677a4fbb8f0d3792ed913c00d415d5a8570881c9d55e1a2100a9662", func := "annals/annalslaw12.ChangeLists", spec := "changeLists", unfollowed := true, recurses := true, named := ["annals/sha.first", "annals/sha.added"], apart := false, laid := [("annals/sha.first", laid_annals_sha_first), ("annals/sha.added", laid_annals_sha_added)], narrowed := true }
def ChangeListsUptoSaid : Prop := changeListsUptoRow.holds Tryd.pinned (OpenSpec.upto changeListsSpec)

/-- 'annalslaw06.MtsNew', WHERE WHAT IT READS IS OF BULK AT MOST 1048576: true; the input reads as it did. -/
def mtsNewUptoRow : OpenClaim := { program := "ytkabinicmdcbpaadoor", sum := "b7cab85c2677a4fbb8f0d3792ed913c00d415d5a8570881c9d55e1a2100a9662", func := "annals/annalslaw06.MtsNew", spec := "mtsNew", inPlace := ["sync/atomic.LoadUint32", "(*internal/sync.Mutex).Lock", "internal/race.Disable", "sync/atomic.CompareAndSwapInt32", "internal/race.Enable", "internal/race.Acquire", "(*internal/sync.Mutex).lockSlow", "internal/sync.runtime_canSpin", "internal/sync.runtime_doSpin", "internal/sync.throw", "internal/sync.runtime_nanotime", "internal/sync.runtime_SemacquireMutex", "sync/atomic.AddInt32", "(*internal/sync.Mutex).Unlock", "internal/race.ReleaseMerge", "(*internal/sync.Mutex).unlockSlow", "internal/sync.fatal", "internal/sync.runtime_Semrelease", "sync/atomic.StoreUint32"], unfollowed := true, recurses := true, named := ["annals/sha.first", "annals/sha.added"], apart := false, laid := [("annals/sha.first", laid_annals_sha_first), ("annals/sha.added", laid_annals_sha_added)], narrowed := true }
def MtsNewUptoSaid : Prop := mtsNewUptoRow.holds Tryd.pinned (OpenSpec.upto mtsNewSpec)

/-- 'annalslaw06.MtsNobody', WHERE WHAT IT READS IS OF BULK AT MOST 1048576: true; the input reads as it did. -/
def mtsNobodyUptoRow : OpenClaim := { program := "ytkabinicmdcbpaadoor", sum := "b7cab85c2677a4fbb8f0d3792ed913c00d415d5a8570881c9d55e1a2100a9662", func := "annals/annalslaw06.MtsNobody", spec := "mtsNobody", inPlace := ["sync/atomic.LoadUint32", "(*internal/sync.Mutex).Lock", "internal/race.Disable", "sync/atomic.CompareAndSwapInt32", "internal/race.Enable", "internal/race.Acquire", "(*internal/sync.Mutex).lockSlow", "internal/sync.runtime_canSpin", "internal/sync.runtime_doSpin", "internal/sync.throw", "internal/sync.runtime_nanotime", "internal/sync.runtime_SemacquireMutex", "sync/atomic.AddInt32", "(*internal/sync.Mutex).Unlock", "internal/race.ReleaseMerge", "(*internal/sync.Mutex).unlockSlow", "internal/sync.fatal", "internal/sync.runtime_Semrelease", "sync/atomic.StoreUint32"], unfollowed := true, recurses := true, named := ["annals/sha.first", "annals/sha.added"], apart := false, laid := [("annals/sha.first", laid_annals_sha_first), ("annals/sha.added", laid_annals_sha_added)], narrowed := true }
def MtsNobodyUptoSaid : Prop := mtsNobodyUptoRow.holds Tryd.pinned (OpenSpec.upto mtsNobodySpec)

/-- 'annalslaw06.MtsVerifies', WHERE WHAT IT READS IS OF BULK AT MOST 1048576: true; the input reads as it did. -/
def mtsVerifiesUptoRow : OpenClaim := { program := "ytkabinicmdcbpaadoor", sum := "b7cab85c2677a4fbb8f0d3792ed913c00d415d5a8570881c9d55e1a2100a9662", func := "annals/annalslaw06.MtsVerifies", spec := "mtsVerifies", inPlace := ["sync/atomic.LoadUint32", "(*internal/sync.Mutex).Lock", "internal/race.Disable", "sync/atomic.CompareAndSwapInt32", "internal/race.Enable", "internal/race.Acquire", "(*internal/sync.Mutex).lockSlow", "internal/sync.runtime_canSpin", "internal/sync.runtime_doSpin", "internal/sync.throw", "internal/sync.runtime_nanotime", "internal/sync.runtime_SemacquireMutex", "sync/atomic.AddInt32", "(*internal/sync.Mutex).Unlock", "internal/race.ReleaseMerge", "(*internal/sync.Mutex).unlockSlow", "internal/sync.fatal", "internal/sync.runtime_Semrelease", "sync/atomic.StoreUint32"], unfollowed := true, recurses := true, named := ["annals/sha.first", "annals/sha.added"], apart := false, laid := [("annals/sha.first", laid_annals_sha_first), ("annals/sha.added", laid_annals_sha_added)], narrowed := true }
def MtsVerifiesUptoSaid : Prop := mtsVerifiesUptoRow.holds Tryd.pinned (OpenSpec.upto mtsVerifiesSpec)

/-- 'annalslaw06.MtsBack', WHERE WHAT IT READS IS OF BULK AT MOST 1048576: true; the input reads as it did. -/
def mtsBackUptoRow : OpenClaim := { program := "ytkabinicmdcbpaadoor", sum := "b7cab85c2677a4fbb8f0d3792ed913c00d415d5a8570881c9d55e1a2100a9662", func := "annals/annalslaw06.MtsBack", spec := "mtsBack", inPlace := ["sync/atomic.LoadUint32", "(*internal/sync.Mutex).Lock", "internal/race.Disable", "sync/atomic.CompareAndSwapInt32", "internal/race.Enable", "internal/race.Acquire", "(*internal/sync.Mutex).lockSlow", "internal/sync.runtime_canSpin", "internal/sync.runtime_doSpin", "internal/sync.throw", "internal/sync.runtime_nanotime", "internal/sync.runtime_SemacquireMutex", "sync/atomic.AddInt32", "(*internal/sync.Mutex).Unlock", "internal/race.ReleaseMerge", "(*internal/sync.Mutex).unlockSlow", "internal/sync.fatal", "internal/sync.runtime_Semrelease", "sync/atomic.StoreUint32"], unfollowed := true, recurses := true, named := ["annals/sha.first", "annals/sha.added"], apart := false, laid := [("annals/sha.first", laid_annals_sha_first), ("annals/sha.added", laid_annals_sha_added)], narrowed := true }
def MtsBackUptoSaid : Prop := mtsBackUptoRow.holds Tryd.pinned (OpenSpec.upto mtsBackSpec)

/-- 'annalslaw06.MtsKeys', WHERE WHAT IT READS IS OF BULK AT MOST 1048576: true; the input reads as it did. -/
def mtsKeysUptoRow : OpenClaim := { program := "ytkabinicmdcbpaadoor", sum := "b7cab85c2677a4fbb8f0d3792ed913c00d415d5a8570881c9d55e1a2100a9662", func := "annals/annalslaw06.MtsKeys", spec := "mtsKeys", inPlace := ["sync/atomic.LoadUint32", "(*internal/sync.Mutex).Lock", "internal/race.Disable", "sync/atomic.CompareAndSwapInt32", "internal/race.Enable", "internal/race.Acquire", "(*internal/sync.Mutex).lockSlow", "internal/sync.runtime_canSpin", "internal/sync.runtime_doSpin", "internal/sync.throw", "internal/sync.runtime_nanotime", "internal/sync.runtime_SemacquireMutex", "sync/atomic.AddInt32", "(*internal/sync.Mutex).Unlock", "internal/race.ReleaseMerge", "(*internal/sync.Mutex).unlockSlow", "internal/sync.fatal", "internal/sync.runtime_Semrelease", "sync/atomic.StoreUint32"], unfollowed := true, recurses := true, named := ["annals/sha.first", "annals/sha.added"], apart := false, laid := [("annals/sha.first", laid_annals_sha_first), ("annals/sha.added", laid_annals_sha_added)], narrowed := true }
def MtsKeysUptoSaid : Prop := mtsKeysUptoRow.holds Tryd.pinned (OpenSpec.upto mtsKeysSpec)

/-- 'annalslaw06.MtsBytes', WHERE WHAT IT READS IS OF BULK AT MOST 1048576: true; the input reads as it did. -/
def mtsBytesUptoRow : OpenClaim := { program := "ytkabinicmdcbpaadoor", sum := "b7cab85c2677a4fbb8f0d3792ed913c00d415d5a8570881c9d55e1a2100a9662", func := "annals/annalslaw06.MtsBytes", spec := "mtsBytes", inPlace := ["sync/atomic.LoadUint32", "(*internal/sync.Mutex).Lock", "internal/race.Disable", "sync/atomic.CompareAndSwapInt32", "internal/race.Enable", "internal/race.Acquire", "(*internal/sync.Mutex).lockSlow", "internal/sync.runtime_canSpin", "internal/sync.runtime_doSpin", "internal/sync.throw", "internal/sync.runtime_nanotime", "internal/sync.runtime_SemacquireMutex", "sync/atomic.AddInt32", "(*internal/sync.Mutex).Unlock", "internal/race.ReleaseMerge", "(*internal/sync.Mutex).unlockSlow", "internal/sync.fatal", "internal/sync.runtime_Semrelease", "sync/atomic.StoreUint32"], unfollowed := true, recurses := true, named := ["annals/sha.first", "annals/sha.added"], apart := false, laid := [("annals/sha.first", laid_annals_sha_first), ("annals/sha.added", laid_annals_sha_added)], narrowed := true }
def MtsBytesUptoSaid : Prop := mtsBytesUptoRow.holds Tryd.pinned (OpenSpec.upto mtsBytesSpec)

end Rows
end Go.Proofs.YtkabinicmdcbpaaDoor
