/-
  No cell of these rows narrows 'for every input' (looked for: loops, veiled, ifaces, maps, wideKeys, modest, calm, conditions, laid).
  DERIVED. THE GIVEN ROWS OF THIS SEAT. 6 by the template 'for every input the law returns true; each argument reads behind the call as it read before'; 0 by the template 'total and deterministic' (their statements: YteaimjfpmacgeaaTotals.lean).
  GIVEN WITH THE SEED: the statements are not yours to turn. If you find one false, say at which input.
  Laid BY PROGRAM, IN A SANDBOX (cutbox-rows.mjs): the forced cells as the released guide's own fill.sh prints them over the translation 1dcb4621171f35d4… (all of the seat's roots in one cut). By AI agents, Wed Nov 11 2026. No macro, syntax, notation, axiom, sorry.
-/
import Derived.Test.YteaimjfpmacgeaaChecked
import GoSem.Claim
import GoSem.ClaimJoined
import GoSem.ClaimMapViews
import Derived.JoinedTies
import Derived.KernelRfl
namespace Go.Proofs.Yteaimjfpmacgeaa
/- THE CELL 'sum', in the pinned program and in every row, IS THE sha256 OF THE DUMP (.gsa) THAT YteaimjfpmacgeaaProg.lean LOADS. Nothing in Lean hashes anything: it is a label: what it is worth is what the hold of that sum in a sandbox is worth. -/
noncomputable def Try.pinned : Pinned := { name := "yteaimjfpmacgeaa", sum := "1dcb4621171f35d481ed20bbb39bd14ed7bd57c31644dd83e5cbf68dac19b0e6", checked := Try.checked }
namespace Rows
def none {H : Type} : Left H := { results := [], args := [] }

/-- 'annalslaw19.FeedSums': WHATEVER THE INPUT: true; the input reads as it did. -/
def feedSumsSpec : ChangeSpec := { name := "feedSums", fn := fun _ => fun
  | [d1, d2, d3] => { results := [.lit (.bool true)], args := [d1, d2, d3] }
  | _ => none }
def feedSumsRow : OpenClaim := { program := "yteaimjfpmacgeaa", sum := "1dcb4621171f35d481ed20bbb39bd14ed7bd57c31644dd83e5cbf68dac19b0e6", func := "annals/annalslaw19.FeedSums", spec := "feedSums", unfollowed := true, recurses := true, apart := false }
def FeedSumsSaid : Prop := feedSumsRow.holds Try.pinned (OpenSpec.ofChange feedSumsSpec)

/-- ITS FALSE NEIGHBOUR: 'it returns false'. Refute it at one input. -/
def feedSumsWrong : ChangeSpec := { name := "feedSums", fn := fun _ => fun
  | [d1, d2, d3] => { results := [.lit (.bool false)], args := [d1, d2, d3] }
  | _ => none }
def FeedSumsWrongFalsely : Prop := feedSumsRow.holds Try.pinned (OpenSpec.ofChange feedSumsWrong)

/-- 'annalslaw07.DeviceStays': WHATEVER THE INPUT: true; the input reads as it did. -/
def deviceStaysSpec : ChangeSpec := { name := "deviceStays", fn := fun _ => fun
  | [d1, d2, d3] => { results := [.lit (.bool true)], args := [d1, d2, d3] }
  | _ => none }
def deviceStaysRow : OpenClaim := { program := "yteaimjfpmacgeaa", sum := "1dcb4621171f35d481ed20bbb39bd14ed7bd57c31644dd83e5cbf68dac19b0e6", func := "annals/annalslaw07.DeviceStays", spec := "deviceStays", apart := false }
def DeviceStaysSaid : Prop := deviceStaysRow.holds Try.pinned (OpenSpec.ofChange deviceStaysSpec)

/-- ITS FALSE NEIGHBOUR: 'it returns false'. Refute it at one input. -/
def deviceStaysWrong : ChangeSpec := { name := "deviceStays", fn := fun _ => fun
  | [d1, d2, d3] => { results := [.lit (.bool false)], args := [d1, d2, d3] }
  | _ => none }
def DeviceStaysWrongFalsely : Prop := deviceStaysRow.holds Try.pinned (OpenSpec.ofChange deviceStaysWrong)

/-- 'annalslaw07.DeviceNobody': WHATEVER THE INPUT: true; the input reads as it did. -/
def deviceNobodySpec : ChangeSpec := { name := "deviceNobody", fn := fun _ => fun
  | [d] => { results := [.lit (.bool true)], args := [d] }
  | _ => none }
def deviceNobodyRow : OpenClaim := { program := "yteaimjfpmacgeaa", sum := "1dcb4621171f35d481ed20bbb39bd14ed7bd57c31644dd83e5cbf68dac19b0e6", func := "annals/annalslaw07.DeviceNobody", spec := "deviceNobody", inPlace := ["internal/bytealg.MakeNoZero"], apart := false }
def DeviceNobodySaid : Prop := deviceNobodyRow.holds Try.pinned (OpenSpec.ofChange deviceNobodySpec)

/-- ITS FALSE NEIGHBOUR: 'it returns false'. Refute it at one input. -/
def deviceNobodyWrong : ChangeSpec := { name := "deviceNobody", fn := fun _ => fun
  | [d] => { results := [.lit (.bool false)], args := [d] }
  | _ => none }
def DeviceNobodyWrongFalsely : Prop := deviceNobodyRow.holds Try.pinned (OpenSpec.ofChange deviceNobodyWrong)

/-- 'annalslaw07.DeviceLives': WHATEVER THE INPUT: true; the input reads as it did. -/
def deviceLivesSpec : ChangeSpec := { name := "deviceLives", fn := fun _ => fun
  | [d1, d2] => { results := [.lit (.bool true)], args := [d1, d2] }
  | _ => none }
def deviceLivesRow : OpenClaim := { program := "yteaimjfpmacgeaa", sum := "1dcb4621171f35d481ed20bbb39bd14ed7bd57c31644dd83e5cbf68dac19b0e6", func := "annals/annalslaw07.DeviceLives", spec := "deviceLives", inPlace := ["internal/bytealg.MakeNoZero"], unfollowed := true, recurses := true, apart := false }
def DeviceLivesSaid : Prop := deviceLivesRow.holds Try.pinned (OpenSpec.ofChange deviceLivesSpec)

/-- ITS FALSE NEIGHBOUR: 'it returns false'. Refute it at one input. -/
def deviceLivesWrong : ChangeSpec := { name := "deviceLives", fn := fun _ => fun
  | [d1, d2] => { results := [.lit (.bool false)], args := [d1, d2] }
  | _ => none }
def DeviceLivesWrongFalsely : Prop := deviceLivesRow.holds Try.pinned (OpenSpec.ofChange deviceLivesWrong)

/-- 'annalslaw07.DeviceKeeps': WHATEVER THE INPUT: true; the input reads as it did. -/
def deviceKeepsSpec : ChangeSpec := { name := "deviceKeeps", fn := fun _ => fun
  | [d1, d2] => { results := [.lit (.bool true)], args := [d1, d2] }
  | _ => none }
def deviceKeepsRow : OpenClaim := { program := "yteaimjfpmacgeaa", sum := "1dcb4621171f35d481ed20bbb39bd14ed7bd57c31644dd83e5cbf68dac19b0e6", func := "annals/annalslaw07.DeviceKeeps", spec := "deviceKeeps", inPlace := ["internal/bytealg.MakeNoZero"], unfollowed := true, recurses := true, apart := false }
def DeviceKeepsSaid : Prop := deviceKeepsRow.holds Try.pinned (OpenSpec.ofChange deviceKeepsSpec)

/-- ITS FALSE NEIGHBOUR: 'it returns false'. Refute it at one input. -/
def deviceKeepsWrong : ChangeSpec := { name := "deviceKeeps", fn := fun _ => fun
  | [d1, d2] => { results := [.lit (.bool false)], args := [d1, d2] }
  | _ => none }
def DeviceKeepsWrongFalsely : Prop := deviceKeepsRow.holds Try.pinned (OpenSpec.ofChange deviceKeepsWrong)

/-- 'annalslaw07.DeviceImages': WHATEVER THE INPUT: true; the input reads as it did. -/
def deviceImagesSpec : ChangeSpec := { name := "deviceImages", fn := fun _ => fun
  | [d1, d2, d3] => { results := [.lit (.bool true)], args := [d1, d2, d3] }
  | _ => none }
def deviceImagesRow : OpenClaim := { program := "yteaimjfpmacgeaa", sum := "1dcb4621171f35d481ed20bbb39bd14ed7bd57c31644dd83e5cbf68dac19b0e6", func := "annals/annalslaw07.DeviceImages", spec := "deviceImages", inPlace := ["internal/bytealg.MakeNoZero"], unfollowed := true, recurses := true, apart := false }
def DeviceImagesSaid : Prop := deviceImagesRow.holds Try.pinned (OpenSpec.ofChange deviceImagesSpec)

/-- ITS FALSE NEIGHBOUR: 'it returns false'. Refute it at one input. -/
def deviceImagesWrong : ChangeSpec := { name := "deviceImages", fn := fun _ => fun
  | [d1, d2, d3] => { results := [.lit (.bool false)], args := [d1, d2, d3] }
  | _ => none }
def DeviceImagesWrongFalsely : Prop := deviceImagesRow.holds Try.pinned (OpenSpec.ofChange deviceImagesWrong)

/- THE SECOND FORM. 'bulk': how many values and letters a reading holds, each counted each time it is reached (what is shared counts as often as it is met; a slice's spare places count too). A statement '..UptoSaid' is the law's where the arguments, and the package variables that the reading takes, are together of bulk at most 1048576: NARROWER than '..Said'. Prove '..Said' where nothing that the law and all that it calls make is longer than what came in: it says more and counts as full. Else prove '..UptoSaid'. A law counts once. -/
mutual
def uptoBulk {H : Type} : DataW H → Nat
  | .lit (.string bytes) => bytes.length + 1
  | .lit _ => 1
  | .nil => 1
  | .ptr d => uptoBulk d + 1
  | .slice elems spare => uptoBulkAll elems + uptoBulkAll spare + 1
  | .agg parts => uptoBulkAll parts + 1
  | .iface _ d => uptoBulk d + 1
  | .map entries => uptoBulkEntries entries + 1
  | .held _ => 1
def uptoBulkAll {H : Type} : List (DataW H) → Nat
  | [] => 0
  | d :: r => uptoBulk d + uptoBulkAll r
def uptoBulkEntries {H : Type} : List (Lit × DataW H) → Nat
  | [] => 0
  | x :: r => uptoBulkEntry x + uptoBulkEntries r
def uptoBulkEntry {H : Type} : Lit × DataW H → Nat
  | (.string bytes, d) => bytes.length + uptoBulk d + 1
  | (_, d) => uptoBulk d + 1
 end
def uptoSmall : (H : Type) → List (DataW H) → Bool := fun _ ds => decide (uptoBulkAll ds ≤ 1048576)
def OpenSpec.upto (s : _root_.Go.ChangeSpec) : _root_.Go.OpenSpec := { _root_.Go.OpenSpec.ofChange s with cond := some uptoSmall }

/-- 'annalslaw19.FeedSums', WHERE WHAT IT READS IS OF BULK AT MOST 1048576: true; the input reads as it did. -/
def feedSumsUptoRow : OpenClaim := { program := "yteaimjfpmacgeaa", sum := "1dcb4621171f35d481ed20bbb39bd14ed7bd57c31644dd83e5cbf68dac19b0e6", func := "annals/annalslaw19.FeedSums", spec := "feedSums", unfollowed := true, recurses := true, apart := false, narrowed := true }
def FeedSumsUptoSaid : Prop := feedSumsUptoRow.holds Try.pinned (OpenSpec.upto feedSumsSpec)

/-- 'annalslaw07.DeviceStays', WHERE WHAT IT READS IS OF BULK AT MOST 1048576: true; the input reads as it did. -/
def deviceStaysUptoRow : OpenClaim := { program := "yteaimjfpmacgeaa", sum := "1dcb4621171f35d481ed20bbb39bd14ed7bd57c31644dd83e5cbf68dac19b0e6", func := "annals/annalslaw07.DeviceStays", spec := "deviceStays", apart := false, narrowed := true }
def DeviceStaysUptoSaid : Prop := deviceStaysUptoRow.holds Try.pinned (OpenSpec.upto deviceStaysSpec)

/-- 'annalslaw07.DeviceNobody', WHERE WHAT IT READS IS OF BULK AT MOST 1048576: true; the input reads as it did. -/
def deviceNobodyUptoRow : OpenClaim := { program := "yteaimjfpmacgeaa", sum := "1dcb4621171f35d481ed20bbb39bd14ed7bd57c31644dd83e5cbf68dac19b0e6", func := "annals/annalslaw07.DeviceNobody", spec := "deviceNobody", inPlace := ["internal/bytealg.MakeNoZero"], apart := false, narrowed := true }
def DeviceNobodyUptoSaid : Prop := deviceNobodyUptoRow.holds Try.pinned (OpenSpec.upto deviceNobodySpec)

/-- 'annalslaw07.DeviceLives', WHERE WHAT IT READS IS OF BULK AT MOST 1048576: true; the input reads as it did. -/
def deviceLivesUptoRow : OpenClaim := { program := "yteaimjfpmacgeaa", sum := "1dcb4621171f35d481ed20bbb39bd14ed7bd57c31644dd83e5cbf68dac19b0e6", func := "annals/annalslaw07.DeviceLives", spec := "deviceLives", inPlace := ["internal/bytealg.MakeNoZero"], unfollowed := true, recurses := true, apart := false, narrowed := true }
def DeviceLivesUptoSaid : Prop := deviceLivesUptoRow.holds Try.pinned (OpenSpec.upto deviceLivesSpec)

/-- 'annalslaw07.DeviceKeeps', WHERE WHAT IT READS IS OF BULK AT MOST 1048576: true; the input reads as it did. -/
def deviceKeepsUptoRow : OpenClaim := { program := "yteaimjfpmacgeaa", sum := "1dcb4621171f35d481ed20bbb39bd14ed7bd57c31644dd83e5cbf68dac19b0e6", func := "annals/annalslaw07.DeviceKeeps", spec := "deviceKeeps", inPlace := ["internal/bytealg.MakeNoZero"], unfollowed := true, recurses := true, apart := false, narrowed := true }
def DeviceKeepsUptoSaid : Prop := deviceKeepsUptoRow.holds Try.pinned (OpenSpec.upto deviceKeepsSpec)

/-- 'annalslaw07.DeviceImages', WHERE WHAT IT READS IS OF BULK AT MOST 1048576: true; the input reads as it did. -/
def deviceImagesUptoRow : OpenClaim := { program := "yteaimjfpmacgeaa", sum := "1dcb4621171f35d481ed20bbb39bd14ed7bd57c31644dd83e5cbf68dac19b0e6", func := "annals/annalslaw07.DeviceImages", spec := "deviceImages", inPlace := ["internal/bytealg.MakeNoZero"], unfollowed := true, recurses := true, apart := false, narrowed := true }
def DeviceImagesUptoSaid : Prop := deviceImagesUptoRow.holds Try.pinned (OpenSpec.upto deviceImagesSpec)

end Rows
end Go.Proofs.Yteaimjfpmacgeaa
