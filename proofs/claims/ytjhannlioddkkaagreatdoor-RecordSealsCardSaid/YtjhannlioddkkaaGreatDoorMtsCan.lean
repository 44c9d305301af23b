
/- Trees of signing keys: what sizes and heights may be. Conditions: none. -/
import Derived.Test.YtjhannlioddkkaaGreatDoorBytes
namespace Go.Proofs.YtjhannlioddkkaaGreatDoor
open Go.RowKit
set_option linter.unusedVariables false

def mcanB (size h : Int) : Bool := decide (1 ≤ size ∧ size ≤ 32 ∧ 0 ≤ h ∧ h ≤ 8)

theorem mcan_any (size h : Int) (w : World) :
    Calls Tryz.prog 47 #[.int .i64 size, .int .i64 h] w fun e w' => e = .returned (.bool (mcanB size h)) ∧ w = w' := by
  obtain ⟨b, hb⟩ : ∃ b, b = mcanB size h := ⟨_, rfl⟩
  rw [← hb]
  have HB := Lib.hid hb
  clear hb
  by_cases h0 : 1 ≤ size
  · by_cases h1 : size ≤ 32
    · by_cases h2 : 0 ≤ h
      · by_cases h3 : h ≤ 8
        all_goals
          go_enter Tryz.func47, Tryz.ntmps47
          go_wp2
          go_ret
          exact ⟨ret_bool (by rw [HB.out]; unfold mcanB; first | exact (decide_eq_true (by omega)).symm | exact (decide_eq_false (by omega)).symm), rfl⟩
      · go_enter Tryz.func47, Tryz.ntmps47
        go_wp2
        go_ret
        exact ⟨ret_bool (by rw [HB.out]; unfold mcanB; first | exact (decide_eq_true (by omega)).symm | exact (decide_eq_false (by omega)).symm), rfl⟩
    · go_enter Tryz.func47, Tryz.ntmps47
      go_wp2
      go_ret
      exact ⟨ret_bool (by rw [HB.out]; unfold mcanB; first | exact (decide_eq_true (by omega)).symm | exact (decide_eq_false (by omega)).symm), rfl⟩
  · go_enter Tryz.func47, Tryz.ntmps47
    go_wp2
    go_ret
    exact ⟨ret_bool (by rw [HB.out]; unfold mcanB; first | exact (decide_eq_true (by omega)).symm | exact (decide_eq_false (by omega)).symm), rfl⟩

end Go.Proofs.YtjhannlioddkkaaGreatDoor
