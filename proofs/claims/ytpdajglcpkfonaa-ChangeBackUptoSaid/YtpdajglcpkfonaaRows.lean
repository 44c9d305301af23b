/-
  No cell of these rows narrows 'for every input' (looked for: loops, veiled, ifaces, maps, wideKeys, modest, calm, conditions, laid).
  DERIVED. THE GIVEN ROWS OF THIS SEAT. 5 by the template 'for every input the law returns true; each argument reads behind the call as it read before'; 0 by the template 'total and deterministic' (their statements: YtpdajglcpkfonaaTotals.lean).
  GIVEN WITH THE SEED: the statements are not yours to turn. If you find one false, say at which input.
  Laid BY PROGRAM, IN A SANDBOX (cutbox-rows.mjs): the forced cells as the released guide's own fill.sh prints them over the translation 49541bb4695bc5c4… (all of the seat's roots in one cut). By AI agents, Wed Nov 11 2026. No macro, syntax, notation, axiom, sorry.
-/
import Derived.Test.YtpdajglcpkfonaaChecked
import GoSem.Claim
import GoSem.ClaimJoined
import GoSem.ClaimMapViews
import Derived.JoinedTies
import Derived.KernelRfl
namespace Go.Proofs.Ytpdajglcpkfonaa
/- THE CELL 'sum', in the pinned program and in every row, IS THE sha256 OF THE DUMP (.gsa) THAT YtpdajglcpkfonaaProg.lean LOADS. Nothing in Lean hashes anything: it is a label: what it is worth is what the hold of that sum in a sandbox is worth. -/
noncomputable def Try.pinned : Pinned := { name := "ytpdajglcpkfonaa", sum := "49541bb4695bc5c4d7528833477a969267c3bfef926ca04d0cbd4810b7b7684c", checked := Try.checked }
namespace Rows
def none {H : Type} : Left H := { results := [], args := [] }

/-- 'annalslaw02.TextsBack': WHATEVER THE INPUT: true; the input reads as it did. -/
def textsBackSpec : ChangeSpec := { name := "textsBack", fn := fun _ => fun
  | [d1, d2, d3] => { results := [.lit (.bool true)], args := [d1, d2, d3] }
  | _ => none }
def textsBackRow : OpenClaim := { program := "ytpdajglcpkfonaa", sum := "49541bb4695bc5c4d7528833477a969267c3bfef926ca04d0cbd4810b7b7684c", func := "annals/annalslaw02.TextsBack", spec := "textsBack", unfollowed := true, recurses := true, apart := false }
def TextsBackSaid : Prop := textsBackRow.holds Try.pinned (OpenSpec.ofChange textsBackSpec)

/-- ITS FALSE NEIGHBOUR: 'it returns false'. Refute it at one input. -/
def textsBackWrong : ChangeSpec := { name := "textsBack", fn := fun _ => fun
  | [d1, d2, d3] => { results := [.lit (.bool false)], args := [d1, d2, d3] }
  | _ => none }
def TextsBackWrongFalsely : Prop := textsBackRow.holds Try.pinned (OpenSpec.ofChange textsBackWrong)

/-- 'annalslaw02.TextsSplit': WHATEVER THE INPUT: true; the input reads as it did. -/
def textsSplitSpec : ChangeSpec := { name := "textsSplit", fn := fun _ => fun
  | [d] => { results := [.lit (.bool true)], args := [d] }
  | _ => none }
def textsSplitRow : OpenClaim := { program := "ytpdajglcpkfonaa", sum := "49541bb4695bc5c4d7528833477a969267c3bfef926ca04d0cbd4810b7b7684c", func := "annals/annalslaw02.TextsSplit", spec := "textsSplit", unfollowed := true, recurses := true, apart := false }
def TextsSplitSaid : Prop := textsSplitRow.holds Try.pinned (OpenSpec.ofChange textsSplitSpec)

/-- ITS FALSE NEIGHBOUR: 'it returns false'. Refute it at one input. -/
def textsSplitWrong : ChangeSpec := { name := "textsSplit", fn := fun _ => fun
  | [d] => { results := [.lit (.bool false)], args := [d] }
  | _ => none }
def TextsSplitWrongFalsely : Prop := textsSplitRow.holds Try.pinned (OpenSpec.ofChange textsSplitWrong)

/-- 'annalslaw07.DeviceStays': WHATEVER THE INPUT: true; the input reads as it did. -/
def deviceStaysSpec : ChangeSpec := { name := "deviceStays", fn := fun _ => fun
  | [d1, d2, d3] => { results := [.lit (.bool true)], args := [d1, d2, d3] }
  | _ => none }
def deviceStaysRow : OpenClaim := { program := "ytpdajglcpkfonaa", sum := "49541bb4695bc5c4d7528833477a969267c3bfef926ca04d0cbd4810b7b7684c", func := "annals/annalslaw07.DeviceStays", spec := "deviceStays", apart := false }
def DeviceStaysSaid : Prop := deviceStaysRow.holds Try.pinned (OpenSpec.ofChange deviceStaysSpec)

/-- ITS FALSE NEIGHBOUR: 'it returns false'. Refute it at one input. -/
def deviceStaysWrong : ChangeSpec := { name := "deviceStays", fn := fun _ => fun
  | [d1, d2, d3] => { results := [.lit (.bool false)], args := [d1, d2, d3] }
  | _ => none }
def DeviceStaysWrongFalsely : Prop := deviceStaysRow.holds Try.pinned (OpenSpec.ofChange deviceStaysWrong)

/-- 'annalslaw12.ChangeBack': WHATEVER THE INPUT: true; the input reads as it did. -/
def changeBackSpec : ChangeSpec := { name := "changeBack", fn := fun _ => fun
  | [d1, d2, d3] => { results := [.lit (.bool true)], args := [d1, d2, d3] }
  | _ => none }
def changeBackRow : OpenClaim := { program := "ytpdajglcpkfonaa", sum := "49541bb4695bc5c4d7528833477a969267c3bfef926ca04d0cbd4810b7b7684c", func := "annals/annalslaw12.ChangeBack", spec := "changeBack", apart := false }
def ChangeBackSaid : Prop := changeBackRow.holds Try.pinned (OpenSpec.ofChange changeBackSpec)

/-- ITS FALSE NEIGHBOUR: 'it returns false'. Refute it at one input. -/
def changeBackWrong : ChangeSpec := { name := "changeBack", fn := fun _ => fun
  | [d1, d2, d3] => { results := [.lit (.bool false)], args := [d1, d2, d3] }
  | _ => none }
def ChangeBackWrongFalsely : Prop := changeBackRow.holds Try.pinned (OpenSpec.ofChange changeBackWrong)

/-- 'annalslaw12.ChangeBytes': WHATEVER THE INPUT: true; the input reads as it did. -/
def changeBytesSpec : ChangeSpec := { name := "changeBytes", fn := fun _ => fun
  | [d1, d2, d3] => { results := [.lit (.bool true)], args := [d1, d2, d3] }
  | _ => none }
def changeBytesRow : OpenClaim := { program := "ytpdajglcpkfonaa", sum := "49541bb4695bc5c4d7528833477a969267c3bfef926ca04d0cbd4810b7b7684c", func := "annals/annalslaw12.ChangeBytes", spec := "changeBytes", apart := false }
def ChangeBytesSaid : Prop := changeBytesRow.holds Try.pinned (OpenSpec.ofChange changeBytesSpec)

/-- ITS FALSE NEIGHBOUR: 'it returns false'. Refute it at one input. -/
def changeBytesWrong : ChangeSpec := { name := "changeBytes", fn := fun _ => fun
  | [d1, d2, d3] => { results := [.lit (.bool false)], args := [d1, d2, d3] }
  | _ => none }
def ChangeBytesWrongFalsely : Prop := changeBytesRow.holds Try.pinned (OpenSpec.ofChange changeBytesWrong)

/- THE SECOND FORM. 'bulk': how many values and letters a reading holds, each counted each time it is reached (what is shared counts as often as it is met; a slice's spare places count too). A statement '..UptoSaid' is the law's where the arguments, and the package variables that the reading takes, are together of bulk at most 1048576: NARROWER than '..Said'. Prove '..Said' where nothing that the law and all that it calls make is longer than what came in: it says more and counts as full. Else prove '..UptoSaid'. A law counts once. -/
mutual
def uptoBulk {H : Type} : DataW H → Nat
  | .lit (.string bytes) => bytes.length + 1
  | .lit _ => 1
  | .nil => 1
  | .ptr d => uptoBulk d + 1
  | .slice elems spare => uptoBulkAll elems + uptoBulkAll spare + 1
  | .agg parts => uptoBulkAll parts + 1
  | .iface _ d => uptoBulk d + 1
  | .map entries => uptoBulkEntries entries + 1
  | .held _ => 1
def uptoBulkAll {H : Type} : List (DataW H) → Nat
  | [] => 0
  | d :: r => uptoBulk d + uptoBulkAll r
def uptoBulkEntries {H : Type} : List (Lit × DataW H) → Nat
  | [] => 0
  | x :: r => uptoBulkEntry x + uptoBulkEntries r
def uptoBulkEntry {H : Type} : Lit × DataW H → Nat
  | (.string bytes, d) => bytes.length + uptoBulk d + 1
  | (_, d) => uptoBulk d + 1
 end
def uptoSmall : (H : Type) → List (DataW H) → Bool := fun _ ds => decide (uptoBulkAll ds ≤ 1048576)
def OpenSpec.upto (s : _root_.Go.ChangeSpec) : _root_.Go.OpenSpec := { _root_.Go.OpenSpec.ofChange s with cond := some uptoSmall }

/-- 'annalslaw02.TextsBack', WHERE WHAT IT READS IS OF BULK AT MOST 1048576: true; the input reads as it did. -/
def textsBackUptoRow : OpenClaim := { program := "ytpdajglcpkfonaa", sum := "49541bb4695bc5c4d7528833477a969267c3bfef926ca04d0cbd4810b7b7684c", func := "annals/annalslaw02.TextsBack", spec := "textsBack", unfollowed := true, recurses := true, apart := false, narrowed := true }
def TextsBackUptoSaid : Prop := textsBackUptoRow.holds Try.pinned (OpenSpec.upto textsBackSpec)

/-- 'annalslaw02.TextsSplit', WHERE WHAT IT READS IS OF BULK AT MOST 1048576: true; the input reads as it did. -/
def textsSplitUptoRow : OpenClaim := { program := "ytpdajglcpkfonaa", sum := "49541bb4695bc5c4d7528833477a969267c3bfef926ca04d0cbd4810b7b7684c", func := "annals/annalslaw02.TextsSplit", spec := "textsSplit", unfollowed := true, recurses := true, apart := false, narrowed := true }
def TextsSplitUptoSaid : Prop := textsSplitUptoRow.holds Try.pinned (OpenSpec.upto textsSplitSpec)

/-- 'annalslaw07.DeviceStays', WHERE WHAT IT READS IS OF BULK AT MOST 1048576: true; the input reads as it did. -/
def deviceStaysUptoRow : OpenClaim := { program := "ytpdajglcpkfonaa", sum := "49541bb4695bc5c4d7528833477a969267c3bfef926ca04d0cbd4810b7b7684c", func := "annals/annalslaw07.DeviceStays", spec := "deviceStays", apart := false, narrowed := true }
def DeviceStaysUptoSaid : Prop := deviceStaysUptoRow.holds Try.pinned (OpenSpec.upto deviceStaysSpec)

/-- 'annalslaw12.ChangeBack', WHERE WHAT IT READS IS OF BULK AT MOST 1048576: true; the input reads as it did. -/
def changeBackUptoRow : OpenClaim := { program := "ytpdajglcpkfonaa", sum := "49541bb4695bc5c4d7528833477a969267c3bfef926ca04d0cbd4810b7b7684c", func := "annals/annalslaw12.ChangeBack", spec := "changeBack", apart := false, narrowed := true }
def ChangeBackUptoSaid : Prop := changeBackUptoRow.holds Try.pinned (OpenSpec.upto changeBackSpec)

/-- 'annalslaw12.ChangeBytes', WHERE WHAT IT READS IS OF BULK AT MOST 1048576: true; the input reads as it did. -/
def changeBytesUptoRow : OpenClaim := { program := "ytpdajglcpkfonaa", sum := "49541bb4695bc5c4d7528833477a969267c3bfef926ca04d0cbd4810b7b7684c", func := "annals/annalslaw12.ChangeBytes", spec := "changeBytes", apart := false, narrowed := true }
def ChangeBytesUptoSaid : Prop := changeBytesUptoRow.holds Try.pinned (OpenSpec.upto changeBytesSpec)

end Rows
end Go.Proofs.Ytpdajglcpkfonaa
