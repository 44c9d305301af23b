/-
  No cell of these rows narrows 'for every input' (looked for: loops, veiled, ifaces, maps, wideKeys, modest, calm, conditions, laid).
  DERIVED. THE GIVEN ROWS OF THIS SEAT. 7 by the template 'for every input the law returns true; each argument reads behind the call as it read before'; 0 by the template 'total and deterministic' (their statements: YtmmkbahgeffmpaaTotals.lean).
  GIVEN WITH THE SEED: the statements are not yours to turn. If you find one false, say at which input.
  Laid BY PROGRAM, IN A SANDBOX (cutbox-rows.mjs): the forced cells as the released guide's own fill.sh prints them over the translation a03d50abf1bd012e… (all of the seat's roots in one cut). By AI agents, Wed Nov 11 2026. No macro, syntax, notation, axiom, sorry.
-/
import Derived.Test.YtmmkbahgeffmpaaChecked
import GoSem.Claim
import GoSem.ClaimJoined
import GoSem.ClaimMapViews
import Derived.JoinedTies
import Derived.KernelRfl
namespace Go.Proofs.Ytmmkbahgeffmpaa
/- THE CELL 'sum', in the pinned program and in every row, IS THE sha256 OF THE DUMP (.gsa) THAT YtmmkbahgeffmpaaProg.lean LOADS. Nothing in Lean hashes anything: it is a label: what it is worth is what the hold of that sum in a sandbox is worth. -/
noncomputable def Try.pinned : Pinned := { name := "ytmmkbahgeffmpaa", sum := "a03d50abf1bd012effcac3fe387162e9102af1dae0e98293d3b8b67015454d31", checked := Try.checked }
namespace Rows
def none {H : Type} : Left H := { results := [], args := [] }

/-- 'annalslaw12.ChangeCheck': WHATEVER THE INPUT: true; the input reads as it did. -/
def changeCheckSpec : ChangeSpec := { name := "changeCheck", fn := fun _ => fun
  | [d1, d2] => { results := [.lit (.bool true)], args := [d1, d2] }
  | _ => none }
def changeCheckRow : OpenClaim := { program := "ytmmkbahgeffmpaa", sum := "a03d50abf1bd012effcac3fe387162e9102af1dae0e98293d3b8b67015454d31", func := "annals/annalslaw12.ChangeCheck", spec := "changeCheck", apart := false }
def ChangeCheckSaid : Prop := changeCheckRow.holds Try.pinned (OpenSpec.ofChange changeCheckSpec)

/-- ITS FALSE NEIGHBOUR: 'it returns false'. Refute it at one input. -/
def changeCheckWrong : ChangeSpec := { name := "changeCheck", fn := fun _ => fun
  | [d1, d2] => { results := [.lit (.bool false)], args := [d1, d2] }
  | _ => none }
def ChangeCheckWrongFalsely : Prop := changeCheckRow.holds Try.pinned (OpenSpec.ofChange changeCheckWrong)

/-- 'annalslaw05.WotsChecks': WHATEVER THE INPUT: true; the input reads as it did. -/
def wotsChecksSpec : ChangeSpec := { name := "wotsChecks", fn := fun _ => fun
  | [d1, d2] => { results := [.lit (.bool true)], args := [d1, d2] }
  | _ => none }
def wotsChecksRow : OpenClaim := { program := "ytmmkbahgeffmpaa", sum := "a03d50abf1bd012effcac3fe387162e9102af1dae0e98293d3b8b67015454d31", func := "annals/annalslaw05.WotsChecks", spec := "wotsChecks", apart := false }
def WotsChecksSaid : Prop := wotsChecksRow.holds Try.pinned (OpenSpec.ofChange wotsChecksSpec)

/-- ITS FALSE NEIGHBOUR: 'it returns false'. Refute it at one input. -/
def wotsChecksWrong : ChangeSpec := { name := "wotsChecks", fn := fun _ => fun
  | [d1, d2] => { results := [.lit (.bool false)], args := [d1, d2] }
  | _ => none }
def WotsChecksWrongFalsely : Prop := wotsChecksRow.holds Try.pinned (OpenSpec.ofChange wotsChecksWrong)

/-- 'annalslaw19.FeedSums': WHATEVER THE INPUT: true; the input reads as it did. -/
def feedSumsSpec : ChangeSpec := { name := "feedSums", fn := fun _ => fun
  | [d1, d2, d3] => { results := [.lit (.bool true)], args := [d1, d2, d3] }
  | _ => none }
def feedSumsRow : OpenClaim := { program := "ytmmkbahgeffmpaa", sum := "a03d50abf1bd012effcac3fe387162e9102af1dae0e98293d3b8b67015454d31", func := "annals/annalslaw19.FeedSums", spec := "feedSums", unfollowed := true, recurses := true, apart := false }
def FeedSumsSaid : Prop := feedSumsRow.holds Try.pinned (OpenSpec.ofChange feedSumsSpec)

/-- ITS FALSE NEIGHBOUR: 'it returns false'. Refute it at one input. -/
def feedSumsWrong : ChangeSpec := { name := "feedSums", fn := fun _ => fun
  | [d1, d2, d3] => { results := [.lit (.bool false)], args := [d1, d2, d3] }
  | _ => none }
def FeedSumsWrongFalsely : Prop := feedSumsRow.holds Try.pinned (OpenSpec.ofChange feedSumsWrong)

/-- 'annalslaw02.TextsApart': WHATEVER THE INPUT: true; the input reads as it did. -/
def textsApartSpec : ChangeSpec := { name := "textsApart", fn := fun _ => fun
  | [d1, d2, d3, d4] => { results := [.lit (.bool true)], args := [d1, d2, d3, d4] }
  | _ => none }
def textsApartRow : OpenClaim := { program := "ytmmkbahgeffmpaa", sum := "a03d50abf1bd012effcac3fe387162e9102af1dae0e98293d3b8b67015454d31", func := "annals/annalslaw02.TextsApart", spec := "textsApart", unfollowed := true, recurses := true, apart := false }
def TextsApartSaid : Prop := textsApartRow.holds Try.pinned (OpenSpec.ofChange textsApartSpec)

/-- ITS FALSE NEIGHBOUR: 'it returns false'. Refute it at one input. -/
def textsApartWrong : ChangeSpec := { name := "textsApart", fn := fun _ => fun
  | [d1, d2, d3, d4] => { results := [.lit (.bool false)], args := [d1, d2, d3, d4] }
  | _ => none }
def TextsApartWrongFalsely : Prop := textsApartRow.holds Try.pinned (OpenSpec.ofChange textsApartWrong)

/-- 'annalslaw21.TiersKept': WHATEVER THE INPUT: true; the input reads as it did. -/
def tiersKeptSpec : ChangeSpec := { name := "tiersKept", fn := fun _ => fun
  | [d] => { results := [.lit (.bool true)], args := [d] }
  | _ => none }
def tiersKeptRow : OpenClaim := { program := "ytmmkbahgeffmpaa", sum := "a03d50abf1bd012effcac3fe387162e9102af1dae0e98293d3b8b67015454d31", func := "annals/annalslaw21.TiersKept", spec := "tiersKept", apart := false }
def TiersKeptSaid : Prop := tiersKeptRow.holds Try.pinned (OpenSpec.ofChange tiersKeptSpec)

/-- ITS FALSE NEIGHBOUR: 'it returns false'. Refute it at one input. -/
def tiersKeptWrong : ChangeSpec := { name := "tiersKept", fn := fun _ => fun
  | [d] => { results := [.lit (.bool false)], args := [d] }
  | _ => none }
def TiersKeptWrongFalsely : Prop := tiersKeptRow.holds Try.pinned (OpenSpec.ofChange tiersKeptWrong)

/-- 'annalslaw21.TiersKeeps': WHATEVER THE INPUT: true; the input reads as it did. -/
def tiersKeepsSpec : ChangeSpec := { name := "tiersKeeps", fn := fun _ => fun
  | [d1, d2] => { results := [.lit (.bool true)], args := [d1, d2] }
  | _ => none }
def tiersKeepsRow : OpenClaim := { program := "ytmmkbahgeffmpaa", sum := "a03d50abf1bd012effcac3fe387162e9102af1dae0e98293d3b8b67015454d31", func := "annals/annalslaw21.TiersKeeps", spec := "tiersKeeps", apart := false }
def TiersKeepsSaid : Prop := tiersKeepsRow.holds Try.pinned (OpenSpec.ofChange tiersKeepsSpec)

/-- ITS FALSE NEIGHBOUR: 'it returns false'. Refute it at one input. -/
def tiersKeepsWrong : ChangeSpec := { name := "tiersKeeps", fn := fun _ => fun
  | [d1, d2] => { results := [.lit (.bool false)], args := [d1, d2] }
  | _ => none }
def TiersKeepsWrongFalsely : Prop := tiersKeepsRow.holds Try.pinned (OpenSpec.ofChange tiersKeepsWrong)

/-- 'annalslaw21.TiersGone': WHATEVER THE INPUT: true; the input reads as it did. -/
def tiersGoneSpec : ChangeSpec := { name := "tiersGone", fn := fun _ => fun
  | [d1, d2, d3] => { results := [.lit (.bool true)], args := [d1, d2, d3] }
  | _ => none }
def tiersGoneRow : OpenClaim := { program := "ytmmkbahgeffmpaa", sum := "a03d50abf1bd012effcac3fe387162e9102af1dae0e98293d3b8b67015454d31", func := "annals/annalslaw21.TiersGone", spec := "tiersGone", apart := false }
def TiersGoneSaid : Prop := tiersGoneRow.holds Try.pinned (OpenSpec.ofChange tiersGoneSpec)

/-- ITS FALSE NEIGHBOUR: 'it returns false'. Refute it at one input. -/
def tiersGoneWrong : ChangeSpec := { name := "tiersGone", fn := fun _ => fun
  | [d1, d2, d3] => { results := [.lit (.bool false)], args := [d1, d2, d3] }
  | _ => none }
def TiersGoneWrongFalsely : Prop := tiersGoneRow.holds Try.pinned (OpenSpec.ofChange tiersGoneWrong)

/- THE SECOND FORM. 'bulk': how many values and letters a reading holds, each counted each time it is reached (what is shared counts as often as it is met; a slice's spare places count too). A statement '..UptoSaid' is the law's where the arguments, and the package variables that the reading takes, are together of bulk at most 1048576: NARROWER than '..Said'. Prove '..Said' where nothing that the law and all that it calls make is longer than what came in: it says more and counts as full. Else prove '..UptoSaid'. A law counts once. -/
mutual
def uptoBulk {H : Type} : DataW H → Nat
  | .lit (.string bytes) => bytes.length + 1
  | .lit _ => 1
  | .nil => 1
  | .ptr d => uptoBulk d + 1
  | .slice elems spare => uptoBulkAll elems + uptoBulkAll spare + 1
  | .agg parts => uptoBulkAll parts + 1
  | .iface _ d => uptoBulk d + 1
  | .map entries => uptoBulkEntries entries + 1
  | .held _ => 1
def uptoBulkAll {H : Type} : List (DataW H) → Nat
  | [] => 0
  | d :: r => uptoBulk d + uptoBulkAll r
def uptoBulkEntries {H : Type} : List (Lit × DataW H) → Nat
  | [] => 0
  | x :: r => uptoBulkEntry x + uptoBulkEntries r
def uptoBulkEntry {H : Type} : Lit × DataW H → Nat
  | (.string bytes, d) => bytes.length + uptoBulk d + 1
  | (_, d) => uptoBulk d + 1
 end
def uptoSmall : (H : Type) → List (DataW H) → Bool := fun _ ds => decide (uptoBulkAll ds ≤ 1048576)
def OpenSpec.upto (s : _root_.Go.ChangeSpec) : _root_.Go.OpenSpec := { _root_.Go.OpenSpec.ofChange s with cond := some uptoSmall }

/-- 'annalslaw12.ChangeCheck', WHERE WHAT IT READS IS OF BULK AT MOST 1048576: true; the input reads as it did. -/
def changeCheckUptoRow : OpenClaim := { program := "ytmmkbahgeffmpaa", sum := "a03d50abf1bd012effcac3fe387162e9102af1dae0e98293d3b8b67015454d31", func := "annals/annalslaw12.ChangeCheck", spec := "changeCheck", apart := false, narrowed := true }
def ChangeCheckUptoSaid : Prop := changeCheckUptoRow.holds Try.pinned (OpenSpec.upto changeCheckSpec)

/-- 'annalslaw05.WotsChecks', WHERE WHAT IT READS IS OF BULK AT MOST 1048576: true; the input reads as it did. -/
def wotsChecksUptoRow : OpenClaim := { program := "ytmmkbahgeffmpaa", sum := "a03d50abf1bd012effcac3fe387162e9102af1dae0e98293d3b8b67015454d31", func := "annals/annalslaw05.WotsChecks", spec := "wotsChecks", apart := false, narrowed := true }
def WotsChecksUptoSaid : Prop := wotsChecksUptoRow.holds Try.pinned (OpenSpec.upto wotsChecksSpec)

/-- 'annalslaw19.FeedSums', WHERE WHAT IT READS IS OF BULK AT MOST 1048576: true; the input reads as it did. -/
def feedSumsUptoRow : OpenClaim := { program := "ytmmkbahgeffmpaa", sum := "a03d50abf1bd012effcac3fe387162e9102af1dae0e98293d3b8b67015454d31", func := "annals/annalslaw19.FeedSums", spec := "feedSums", unfollowed := true, recurses := true, apart := false, narrowed := true }
def FeedSumsUptoSaid : Prop := feedSumsUptoRow.holds Try.pinned (OpenSpec.upto feedSumsSpec)

/-- 'annalslaw02.TextsApart', WHERE WHAT IT READS IS OF BULK AT MOST 1048576: true; the input reads as it did. -/
def textsApartUptoRow : OpenClaim := { program := "ytmmkbahgeffmpaa", sum := "a03d50abf1bd012effcac3fe387162e9102af1dae0e98293d3b8b67015454d31", func := "annals/annalslaw02.TextsApart", spec := "textsApart", unfollowed := true, recurses := true, apart := false, narrowed := true }
def TextsApartUptoSaid : Prop := textsApartUptoRow.holds Try.pinned (OpenSpec.upto textsApartSpec)

/-- 'annalslaw21.TiersKept', WHERE WHAT IT READS IS OF BULK AT MOST 1048576: true; the input reads as it did. -/
def tiersKeptUptoRow : OpenClaim := { program := "ytmmkbahgeffmpaa", sum := "a03d50abf1bd012effcac3fe387162e9102af1dae0e98293d3b8b67015454d31", func := "annals/annalslaw21.TiersKept", spec := "tiersKept", apart := false, narrowed := true }
def TiersKeptUptoSaid : Prop := tiersKeptUptoRow.holds Try.pinned (OpenSpec.upto tiersKeptSpec)

/-- 'annalslaw21.TiersKeeps', WHERE WHAT IT READS IS OF BULK AT MOST 1048576: true; the input reads as it did. -/
def tiersKeepsUptoRow : OpenClaim := { program := "ytmmkbahgeffmpaa", sum := "a03d50abf1bd012effcac3fe387162e9102af1dae0e98293d3b8b67015454d31", func := "annals/annalslaw21.TiersKeeps", spec := "tiersKeeps", apart := false, narrowed := true }
def TiersKeepsUptoSaid : Prop := tiersKeepsUptoRow.holds Try.pinned (OpenSpec.upto tiersKeepsSpec)

/-- 'annalslaw21.TiersGone', WHERE WHAT IT READS IS OF BULK AT MOST 1048576: true; the input reads as it did. -/
def tiersGoneUptoRow : OpenClaim := { program := "ytmmkbahgeffmpaa", sum := "a03d50abf1bd012effcac3fe387162e9102af1dae0e98293d3b8b67015454d31", func := "annals/annalslaw21.TiersGone", spec := "tiersGone", apart := false, narrowed := true }
def TiersGoneUptoSaid : Prop := tiersGoneUptoRow.holds Try.pinned (OpenSpec.upto tiersGoneSpec)

end Rows
end Go.Proofs.Ytmmkbahgeffmpaa
