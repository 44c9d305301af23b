
/- The codec's reader: the program's walks. -/
import Derived.Test.YtjhannlioddkkaaGreatDoorCodec
import Derived.Test.YtjhannlioddkkaaGreatDoorBytes
import Derived.Test.YtjhannlioddkkaaGreatDoorBlk
import Derived.Deep.QuietTactic
import Derived.BigQuiet
namespace Go.Proofs.YtjhannlioddkkaaGreatDoor
open Go.RowKit
set_option linter.unusedVariables false

/-- Block g is a reader that was made: what is left of its bytes, its first error. -/
def Rd (w : World) (g : Nat) (bs : List Int) (e : Int) : Prop := ∃ v, Blk w g 68 #[.bool true, v, .int .i64 e] ∧ Sl w v (bs.map (Value.int .u8))

set_option maxHeartbeats 400000 in
theorem rnone_any (g : Nat) (v1 v2 : Value) (w : World) (h : Blk w g 68 #[.bool true, v1, v2]) :
    Calls Tryz.prog 44 #[.pointer (some ⟨g, 0, none⟩)] w fun e w' => e = .returned (.bool false) ∧ w = w' := by
  have q0 : w.cell? ⟨g, 0, none⟩ = some (.bool true) := h.cell 0
  go_enter Tryz.func44, Tryz.ntmps44
  go_wp2
  go_ret
  exact ⟨rfl, rfl⟩

set_option maxHeartbeats 400000 in
/-- All is well. -/
theorem rok_true (g : Nat) (v1 : Value) (er : Int) (w : World) (h : Blk w g 68 #[.bool true, v1, .int .i64 0]) :
    Calls Tryz.prog 63 #[.pointer (some ⟨g, 0, none⟩), .bool true, .int .i64 er] w fun e w' => e = .returned (.bool true) ∧ w = w' := by
  have q2 : w.cell? ⟨g, 2, none⟩ = some (.int .i64 0) := h.cell 2
  have HN := Lib.hid (rnone_any g _ _ w h)
  clear h
  go_enter Tryz.func63, Tryz.ntmps63
  go_wp2_with fail
  refine HN.out.mono ?_
  rintro e w1 ⟨rfl, rfl⟩
  go_wp2
  go_ret
  exact ⟨rfl, rfl⟩

set_option maxHeartbeats 400000 in
/-- There is an error already. -/
theorem rok_err (g : Nat) (v1 : Value) (so : Bool) (e0 er : Int) (w : World) (he : ¬ e0 = 0) (h : Blk w g 68 #[.bool true, v1, .int .i64 e0]) :
    Calls Tryz.prog 63 #[.pointer (some ⟨g, 0, none⟩), .bool so, .int .i64 er] w fun e w' => e = .returned (.bool false) ∧ w = w' := by
  have q2 : w.cell? ⟨g, 2, none⟩ = some (.int .i64 e0) := h.cell 2
  have HN := Lib.hid (rnone_any g _ _ w h)
  clear h
  cases so
  all_goals
    go_enter Tryz.func63, Tryz.ntmps63
    go_wp2_with fail
    refine HN.out.mono ?_
    rintro e w1 ⟨rfl, rfl⟩
    go_wp2
    go_ret
    exact ⟨ret_bool (by first | rfl | exact beq_false_of_ne he), rfl⟩

end Go.Proofs.YtjhannlioddkkaaGreatDoor
