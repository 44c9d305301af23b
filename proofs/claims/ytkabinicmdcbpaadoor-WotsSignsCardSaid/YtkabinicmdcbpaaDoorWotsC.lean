/- The plain law of the digits, and the walk of the law WotsChecks. -/
import Derived.Test.YtkabinicmdcbpaaDoorWotsP
import Derived.Test.YtkabinicmdcbpaaDoorEqInts
namespace Go.Proofs.YtkabinicmdcbpaaDoor
open Go.RowKit
set_option linter.unusedVariables false

theorem digits255 : digitsOf [255] = [3, 3, 3, 3, 0, 0, 0, 0, 0] := by decide +kernel

theorem wotsAwake_any (w : World) : Calls Tryd.prog 17 #[] w fun e w' => e = .returned (.bool true) ∧ Below w.heap.size w w' := by
  go_enter Tryd.func17, Tryd.ntmps17
  go_wp2_with fail
  refine (digits_short [255] _ (by intro n hn; simp at hn; omega) (by simp) _ (Sl.lit w #[.int .u8 255] _ (by simp [maxLen]))).mono ?_
  rintro e w1 ⟨v, rfl, hs1, hb1⟩
  rw [digits255] at hs1
  have hb0 : Below w.heap.size w w1 := ((Below.refl _ _).alloc (Nat.le_refl _) _).trans (hb1.mono (by simp))
  clear hb1
  go_wp2_with fail
  have hs2 := Sl.lit w1 #[.int .i64 3, .int .i64 3, .int .i64 3, .int .i64 3, .int .i64 0, .int .i64 0, .int .i64 0, .int .i64 0, .int .i64 0] 3 (by simp [maxLen])
  have h := eqInts_any _ _ [3, 3, 3, 3, 0, 0, 0, 0, 0] [3, 3, 3, 3, 0, 0, 0, 0, 0] _ (hs1.below ((Below.refl _ _).alloc (Nat.le_refl _) _) (Nat.le_refl _)) hs2
  refine h.mono ?_
  rintro e w2 ⟨rfl, hb2⟩
  go_wp2
  go_ret
  exact ⟨ret_bool (by decide), (hb0.alloc hb0.size _).trans (hb2.mono (by simp; have := hb0.size; omega))⟩

end Go.Proofs.YtkabinicmdcbpaaDoor
