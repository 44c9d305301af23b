/-
  NARROWER THAN 'FOR EVERY INPUT', by the rows' own cells (each row's printed sentence says how): FeedAny: laid · SeglogNobody: laid · SeglogCrashes: laid · SeglogOpens: laid · SeglogRoom: laid.
  DERIVED. THE GIVEN ROWS OF THIS SEAT. 5 by the template 'for every input the law returns true; each argument reads behind the call as it read before'; 0 by the template 'total and deterministic' (their statements: YtgfkejecigefbaaDoorTotals.lean).
  GIVEN WITH THE SEED: the statements are not yours to turn. If you find one false, say at which input.
  Laid BY PROGRAM, IN A SANDBOX (cutbox-rows.mjs): the forced cells as the released guide's own fill.sh prints them over the translation 53154213955f48e6… (all of the seat's roots in one cut). By AI agents, Wed Nov 11 2026. No macro, syntax, notation, axiom, sorry.
-/
import Derived.Test.YtgfkejecigefbaaDoorChecked
import GoSem.PinnedTables
import GoSem.Claim
import GoSem.ClaimJoined
import GoSem.ClaimMapViews
import Derived.JoinedTies
import Derived.KernelRfl
namespace Go.Proofs.YtgfkejecigefbaaDoor
/- THE CELL 'sum', in the pinned program and in every row, IS THE sha256 OF THE DUMP (.gsa) THAT YtgfkejecigefbaaDoorProg.lean LOADS. Nothing in Lean hashes anything: it is a label: what it is worth is what the hold of that sum in a sandbox is worth. -/
noncomputable def Tryd.pinned : Pinned := { name := "ytgfkejecigefbaadoor", sum := "53154213955f48e6f138ef79034f2900893436767200f5c4194171c6dcb239f5", checked := Tryd.checked }
namespace Rows
def none {H : Type} : Left H := { results := [], args := [] }

/- WHAT THE LISTED PACKAGE-LEVEL VARIABLES READ AS WHEN THE CALL BEGINS. Each datum BY PROGRAM (the guide's laid-datum.mjs) off the statement by which the dump's own 'gosem.cut.vars' lays the variable. In a bare row this is a premise. The card (YtgfkejecigefbaaDoorCards.lean) ties it to the program's text. -/
def laid_annals_sha_first {H : Type} : DataW H := .agg [.lit (.int .u32 1779033703), .lit (.int .u32 3144134277), .lit (.int .u32 1013904242), .lit (.int .u32 2773480762), .lit (.int .u32 1359893119), .lit (.int .u32 2600822924), .lit (.int .u32 528734635), .lit (.int .u32 1541459225)]
def laid_annals_sha_added {H : Type} : DataW H := .agg [.lit (.int .u32 1116352408), .lit (.int .u32 1899447441), .lit (.int .u32 3049323471), .lit (.int .u32 3921009573), .lit (.int .u32 961987163), .lit (.int .u32 1508970993), .lit (.int .u32 2453635748), .lit (.int .u32 2870763221), .lit (.int .u32 3624381080), .lit (.int .u32 310598401), .lit (.int .u32 607225278), .lit (.int .u32 1426881987), .lit (.int .u32 1925078388), .lit (.int .u32 2162078206), .lit (.int .u32 2614888103), .lit (.int .u32 3248222580), .lit (.int .u32 3835390401), .lit (.int .u32 4022224774), .lit (.int .u32 264347078), .lit (.int .u32 604807628), .lit (.int .u32 770255983), .lit (.int .u32 1249150122), .lit (.int .u32 1555081692), .lit (.int .u32 1996064986), .lit (.int .u32 2554220882), .lit (.int .u32 2821834349), .lit (.int .u32 2952996808), .lit (.int .u32 3210313671), .lit (.int .u32 3336571891), .lit (.int .u32 3584528711), .lit (.int .u32 113926993), .lit (.int .u32 338241895), .lit (.int .u32 666307205), .lit (.int .u32 773529912), .lit (.int .u32 1294757372), .lit (.int .u32 1396182291), .lit (.int .u32 1695183700), .lit (.int .u32 1986661051), .lit (.int .u32 2177026350), .lit (.int .u32 2456956037), .lit (.int .u32 2730485921), .lit (.int .u32 2820302411), .lit (.int .u32 3259730800), .lit (.int .u32 3345764771), .lit (.int .u32 3516065817), .lit (.int .u32 3600352804), .lit (.int .u32 4094571909), .lit (.int .u32 275423344), .lit (.int .u32 430227734), .lit (.int .u32 506948616), .lit (.int .u32 659060556), .lit (.int .u32 883997877), .lit (.int .u32 958139571), .lit (.int .u32 1322822218), .lit (.int .u32 1537002063), .lit (.int .u32 1747873779), .lit (.int .u32 1955562222), .lit (.int .u32 2024104815), .lit (.int .u32 2227730452), .lit (.int .u32 2361852424), .lit (.int .u32 2428436474), .lit (.int .u32 2756734187), .lit (.int .u32 3204031479), .lit (.int .u32 3329325298)]
def laid_unicode_utf8_acceptRanges {H : Type} : DataW H := .agg [.agg [.lit (.int .u8 128), .lit (.int .u8 191)], .agg [.lit (.int .u8 160), .lit (.int .u8 191)], .agg [.lit (.int .u8 128), .lit (.int .u8 159)], .agg [.lit (.int .u8 144), .lit (.int .u8 191)], .agg [.lit (.int .u8 128), .lit (.int .u8 143)], .agg [.lit (.int .u8 0), .lit (.int .u8 0)], .agg [.lit (.int .u8 0), .lit (.int .u8 0)], .agg [.lit (.int .u8 0), .lit (.int .u8 0)], .agg [.lit (.int .u8 0), .lit (.int .u8 0)], .agg [.lit (.int .u8 0), .lit (.int .u8 0)], .agg [.lit (.int .u8 0), .lit (.int .u8 0)], .agg [.lit (.int .u8 0), .lit (.int .u8 0)], .agg [.lit (.int .u8 0), .lit (.int .u8 0)], .agg [.lit (.int .u8 0), .lit (.int .u8 0)], .agg [.lit (.int .u8 0), .lit (.int .u8 0)], .agg [.lit (.int .u8 0), .lit (.int .u8 0)]]
/-- One of Go's own tables, pinned by name: the form's constant. -/
def laid_unicode_utf8_first : DataW Unit := Go.Pinned.utf8First

/-- 'annalslaw19.FeedAny': WHATEVER THE INPUT: true; the input reads as it did. -/
def feedAnySpec : ChangeSpec := { name := "feedAny", fn := fun _ => fun
  | [d1, d2, d3, d4, d5, d6] => { results := [.lit (.bool true)], args := [d1, d2, d3, d4, d5, d6] }
  | _ => none }
def feedAnyRow : OpenClaim := { program := "ytgfkejecigefbaadoor", sum := "53154213955f48e6f138ef79034f2900893436767200f5c4194171c6dcb239f5", func := "annals/annalslaw19.FeedAny", spec := "feedAny", unfollowed := true, recurses := true, named := ["annals/sha.first", "annals/sha.added"], apart := false, laid := [("annals/sha.first", laid_annals_sha_first), ("annals/sha.added", laid_annals_sha_added)] }
def FeedAnySaid : Prop := feedAnyRow.holds Tryd.pinned (OpenSpec.ofChange feedAnySpec)

/-- ITS FALSE NEIGHBOUR: 'it returns false'. Refute it at one input. -/
def feedAnyWrong : ChangeSpec := { name := "feedAny", fn := fun _ => fun
  | [d1, d2, d3, d4, d5, d6] => { results := [.lit (.bool false)], args := [d1, d2, d3, d4, d5, d6] }
  | _ => none }
def FeedAnyWrongFalsely : Prop := feedAnyRow.holds Tryd.pinned (OpenSpec.ofChange feedAnyWrong)

/-- 'annalslaw08.SeglogNobody': WHATEVER THE INPUT: true; the input reads as it did. -/
def seglogNobodySpec : ChangeSpec := { name := "seglogNobody", fn := fun _ => fun
  | [d] => { results := [.lit (.bool true)], args := [d] }
  | _ => none }
def seglogNobodyRow : OpenClaim := { program := "ytgfkejecigefbaadoor", sum := "53154213955f48e6f138ef79034f2900893436767200f5c4194171c6dcb239f5", func := "annals/annalslaw08.SeglogNobody", spec := "seglogNobody", unfollowed := true, recurses := true, named := ["annals/sha.first", "annals/sha.added", "unicode/utf8.first", "unicode/utf8.acceptRanges"], apart := false, laid := [("annals/sha.first", laid_annals_sha_first), ("annals/sha.added", laid_annals_sha_added), ("unicode/utf8.acceptRanges", laid_unicode_utf8_acceptRanges), ("unicode/utf8.first", laid_unicode_utf8_first)] }
def SeglogNobodySaid : Prop := seglogNobodyRow.holds Tryd.pinned (OpenSpec.ofChange seglogNobodySpec)

/-- ITS FALSE NEIGHBOUR: 'it returns false'. Refute it at one input. -/
def seglogNobodyWrong : ChangeSpec := { name := "seglogNobody", fn := fun _ => fun
  | [d] => { results := [.lit (.bool false)], args := [d] }
  | _ => none }
def SeglogNobodyWrongFalsely : Prop := seglogNobodyRow.holds Tryd.pinned (OpenSpec.ofChange seglogNobodyWrong)

/-- 'annalslaw08.SeglogCrashes': WHATEVER THE INPUT: true; the input reads as it did. -/
def seglogCrashesSpec : ChangeSpec := { name := "seglogCrashes", fn := fun _ => fun
  | [d1, d2, d3, d4, d5, d6] => { results := [.lit (.bool true)], args := [d1, d2, d3, d4, d5, d6] }
  | _ => none }
def seglogCrashesRow : OpenClaim := { program := "ytgfkejecigefbaadoor", sum := "53154213955f48e6f138ef79034f2900893436767200f5c4194171c6dcb239f5", func := "annals/annalslaw08.SeglogCrashes", spec := "seglogCrashes", unfollowed := true, recurses := true, named := ["annals/sha.first", "annals/sha.added", "unicode/utf8.first", "unicode/utf8.acceptRanges"], apart := false, laid := [("annals/sha.first", laid_annals_sha_first), ("annals/sha.added", laid_annals_sha_added), ("unicode/utf8.acceptRanges", laid_unicode_utf8_acceptRanges), ("unicode/utf8.first", laid_unicode_utf8_first)] }
def SeglogCrashesSaid : Prop := seglogCrashesRow.holds Tryd.pinned (OpenSpec.ofChange seglogCrashesSpec)

/-- ITS FALSE NEIGHBOUR: 'it returns false'. Refute it at one input. -/
def seglogCrashesWrong : ChangeSpec := { name := "seglogCrashes", fn := fun _ => fun
  | [d1, d2, d3, d4, d5, d6] => { results := [.lit (.bool false)], args := [d1, d2, d3, d4, d5, d6] }
  | _ => none }
def SeglogCrashesWrongFalsely : Prop := seglogCrashesRow.holds Tryd.pinned (OpenSpec.ofChange seglogCrashesWrong)

/-- 'annalslaw08.SeglogOpens': WHATEVER THE INPUT: true; the input reads as it did. -/
def seglogOpensSpec : ChangeSpec := { name := "seglogOpens", fn := fun _ => fun
  | [d] => { results := [.lit (.bool true)], args := [d] }
  | _ => none }
def seglogOpensRow : OpenClaim := { program := "ytgfkejecigefbaadoor", sum := "53154213955f48e6f138ef79034f2900893436767200f5c4194171c6dcb239f5", func := "annals/annalslaw08.SeglogOpens", spec := "seglogOpens", unfollowed := true, recurses := true, named := ["annals/sha.first", "annals/sha.added", "unicode/utf8.first", "unicode/utf8.acceptRanges"], apart := false, laid := [("annals/sha.first", laid_annals_sha_first), ("annals/sha.added", laid_annals_sha_added), ("unicode/utf8.acceptRanges", laid_unicode_utf8_acceptRanges), ("unicode/utf8.first", laid_unicode_utf8_first)] }
def SeglogOpensSaid : Prop := seglogOpensRow.holds Tryd.pinned (OpenSpec.ofChange seglogOpensSpec)

/-- ITS FALSE NEIGHBOUR: 'it returns false'. Refute it at one input. -/
def seglogOpensWrong : ChangeSpec := { name := "seglogOpens", fn := fun _ => fun
  | [d] => { results := [.lit (.bool false)], args := [d] }
  | _ => none }
def SeglogOpensWrongFalsely : Prop := seglogOpensRow.holds Tryd.pinned (OpenSpec.ofChange seglogOpensWrong)

/-- 'annalslaw08.SeglogRoom': WHATEVER THE INPUT: true; the input reads as it did. -/
def seglogRoomSpec : ChangeSpec := { name := "seglogRoom", fn := fun _ => fun
  | [d1, d2, d3] => { results := [.lit (.bool true)], args := [d1, d2, d3] }
  | _ => none }
def seglogRoomRow : OpenClaim := { program := "ytgfkejecigefbaadoor", sum := "53154213955f48e6f138ef79034f2900893436767200f5c4194171c6dcb239f5", func := "annals/annalslaw08.SeglogRoom", spec := "seglogRoom", inPlace := ["internal/bytealg.MakeNoZero"], unfollowed := true, recurses := true, named := ["annals/sha.first", "annals/sha.added", "unicode/utf8.first", "unicode/utf8.acceptRanges"], apart := false, laid := [("annals/sha.first", laid_annals_sha_first), ("annals/sha.added", laid_annals_sha_added), ("unicode/utf8.acceptRanges", laid_unicode_utf8_acceptRanges), ("unicode/utf8.first", laid_unicode_utf8_first)] }
def SeglogRoomSaid : Prop := seglogRoomRow.holds Tryd.pinned (OpenSpec.ofChange seglogRoomSpec)

/-- ITS FALSE NEIGHBOUR: 'it returns false'. Refute it at one input. -/
def seglogRoomWrong : ChangeSpec := { name := "seglogRoom", fn := fun _ => fun
  | [d1, d2, d3] => { results := [.lit (.bool false)], args := [d1, d2, d3] }
  | _ => none }
def SeglogRoomWrongFalsely : Prop := seglogRoomRow.holds Tryd.pinned (OpenSpec.ofChange seglogRoomWrong)

/- THE SECOND FORM. 'bulk': how many values and letters a reading holds, each counted each time it is reached (what is shared counts as often as it is met; a slice's spare places count too). A statement '..UptoSaid' is the law's where the arguments, and the package variables that the reading takes, are together of bulk at most 1048576: NARROWER than '..Said'. Prove '..Said' where nothing that the law and all that it calls make is longer than what came in: it says more and counts as full. Else prove '..UptoSaid'. A law counts once. -/
mutual
def uptoBulk {H : Type} : DataW H → Nat
  | .lit (.string bytes) => bytes.length + 1
  | .lit _ => 1
  | .nil => 1
  | .ptr d => uptoBulk d + 1
  | .slice elems spare => uptoBulkAll elems + uptoBulkAll spare + 1
  | .agg parts => uptoBulkAll parts + 1
  | .iface _ d => uptoBulk d + 1
  | .map entries => uptoBulkEntries entries + 1
  | .held _ => 1
def uptoBulkAll {H : Type} : List (DataW H) → Nat
  | [] => 0
  | d :: r => uptoBulk d + uptoBulkAll r
def uptoBulkEntries {H : Type} : List (Lit × DataW H) → Nat
  | [] => 0
  | x :: r => uptoBulkEntry x + uptoBulkEntries r
def uptoBulkEntry {H : Type} : Lit × DataW H → Nat
  | (.string bytes, d) => bytes.length + uptoBulk d + 1
  | (_, d) => uptoBulk d + 1
 end
def uptoSmall : (H : Type) → List (DataW H) → Bool := fun _ ds => decide (uptoBulkAll ds ≤ 1048576)
def OpenSpec.upto (s : _root_.Go.ChangeSpec) : _root_.Go.OpenSpec := { _root_.Go.OpenSpec.ofChange s with cond := some uptoSmall }

/-- 'annalslaw19.FeedAny', WHERE WHAT IT READS IS OF BULK AT MOST 1048576: true; the input reads as it did. -/
def feedAnyUptoRow : OpenClaim := { program := "ytgfkejecigefbaadoor", sum := "53154213955f48e6f138ef79034f2900893436767200f5c4194171c6dcb239f5", func := "annals/annalslaw19.FeedAny", spec := "feedAny", unfollowed := true, recurses := true, named := ["annals/sha.first", "annals/sha.added"], apart := false, laid := [("annals/sha.first", laid_annals_sha_first), ("annals/sha.added", laid_annals_sha_added)], narrowed := true }
def FeedAnyUptoSaid : Prop := feedAnyUptoRow.holds Tryd.pinned (OpenSpec.upto feedAnySpec)

/-- 'annalslaw08.SeglogNobody', WHERE WHAT IT READS IS OF BULK AT MOST 1048576: true; the input reads as it did. -/
def seglogNobodyUptoRow : OpenClaim := { program := "ytgfkejecigefbaadoor", sum := "53154213955f48e6f138ef79034f2900893436767200f5c4194171c6dcb239f5", func := "annals/annalslaw08.SeglogNobody", spec := "seglogNobody", unfollowed := true, recurses := true, named := ["annals/sha.first", "annals/sha.added", "unicode/utf8.first", "unicode/utf8.acceptRanges"], apart := false, laid := [("annals/sha.first", laid_annals_sha_first), ("annals/sha.added", laid_annals_sha_added), ("unicode/utf8.acceptRanges", laid_unicode_utf8_acceptRanges), ("unicode/utf8.first", laid_unicode_utf8_first)], narrowed := true }
def SeglogNobodyUptoSaid : Prop := seglogNobodyUptoRow.holds Tryd.pinned (OpenSpec.upto seglogNobodySpec)

/-- 'annalslaw08.SeglogCrashes', WHERE WHAT IT READS IS OF BULK AT MOST 1048576: true; the input reads as it did. -/
def seglogCrashesUptoRow : OpenClaim := { program := "ytgfkejecigefbaadoor", sum := "53154213955f48e6f138ef79034f2900893436767200f5c4194171c6dcb239f5", func := "annals/annalslaw08.SeglogCrashes", spec := "seglogCrashes", unfollowed := true, recurses := true, named := ["annals/sha.first", "annals/sha.added", "unicode/utf8.first", "unicode/utf8.acceptRanges"], apart := false, laid := [("annals/sha.first", laid_annals_sha_first), ("annals/sha.added", laid_annals_sha_added), ("unicode/utf8.acceptRanges", laid_unicode_utf8_acceptRanges), ("unicode/utf8.first", laid_unicode_utf8_first)], narrowed := true }
def SeglogCrashesUptoSaid : Prop := seglogCrashesUptoRow.holds Tryd.pinned (OpenSpec.upto seglogCrashesSpec)

/-- 'annalslaw08.SeglogOpens', WHERE WHAT IT READS IS OF BULK AT MOST 1048576: true; the input reads as it did. -/
def seglogOpensUptoRow : OpenClaim := { program := "ytgfkejecigefbaadoor", sum := "53154213955f48e6f138ef79034f2900893436767200f5c4194171c6dcb239f5", func := "annals/annalslaw08.SeglogOpens", spec := "seglogOpens", unfollowed := true, recurses := true, named := ["annals/sha.first", "annals/sha.added", "unicode/utf8.first", "unicode/utf8.acceptRanges"], apart := false, laid := [("annals/sha.first", laid_annals_sha_first), ("annals/sha.added", laid_annals_sha_added), ("unicode/utf8.acceptRanges", laid_unicode_utf8_acceptRanges), ("unicode/utf8.first", laid_unicode_utf8_first)], narrowed := true }
def SeglogOpensUptoSaid : Prop := seglogOpensUptoRow.holds Tryd.pinned (OpenSpec.upto seglogOpensSpec)

/-- 'annalslaw08.SeglogRoom', WHERE WHAT IT READS IS OF BULK AT MOST 1048576: true; the input reads as it did. -/
def seglogRoomUptoRow : OpenClaim := { program := "ytgfkejecigefbaadoor", sum := "53154213955f48e6f138ef79034f2900893436767200f5c4194171c6dcb239f5", func := "annals/annalslaw08.SeglogRoom", spec := "seglogRoom", inPlace := ["internal/bytealg.MakeNoZero"], unfollowed := true, recurses := true, named := ["annals/sha.first", "annals/sha.added", "unicode/utf8.first", "unicode/utf8.acceptRanges"], apart := false, laid := [("annals/sha.first", laid_annals_sha_first), ("annals/sha.added", laid_annals_sha_added), ("unicode/utf8.acceptRanges", laid_unicode_utf8_acceptRanges), ("unicode/utf8.first", laid_unicode_utf8_first)], narrowed := true }
def SeglogRoomUptoSaid : Prop := seglogRoomUptoRow.holds Tryd.pinned (OpenSpec.upto seglogRoomSpec)

end Rows
end Go.Proofs.YtgfkejecigefbaaDoor
