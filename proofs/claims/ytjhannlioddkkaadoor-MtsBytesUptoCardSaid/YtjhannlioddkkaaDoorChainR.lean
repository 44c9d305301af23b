
/- The walk along a chain, the reference's; both for natural steps. -/
import Derived.Test.YtjhannlioddkkaaDoorChain
namespace Go.Proofs.YtjhannlioddkkaaDoor
open Go.RowKit
set_option linter.unusedVariables false

theorem chainN_any (size : Int) (v : Value) (bs : List Int) (idx i : Int) (fr te : Nat) (w : World) (hx0 : -9223372036854775808 ≤ idx) (hx1 : idx ≤ 9223372036854775807) (hi0 : -9223372036854775808 ≤ i) (hi1 : i ≤ 9223372036854775807) (h1 : fr ≤ te) (h2 : te ≤ 3)
    (hn : bs.length ≤ 140737488351232) (hB : IsB bs) (hs : Sl w v (bs.map (Value.int .u8))) (ht : Tabs w) :
    Calls Tryd.prog 185 #[.int .i64 size, v, .int .i64 idx, .int .i64 i, .int .i64 fr, .int .i64 te] w fun e w' => ∃ x, e = .returned x ∧ Sl w' x ((chI size idx i fr bs (te - fr)).map (Value.int .u8)) ∧ Below w.heap.size w w' := by
  have h := chain_any size v bs idx i fr te w hx0 hx1 hi0 hi1 (by omega) hn hB hs ht
  rw [show max (fr : Int) 0 = fr by omega, show (min (te : Int) 3 - fr).toNat = te - fr by omega] at h
  exact h


end Go.Proofs.YtjhannlioddkkaaDoor
