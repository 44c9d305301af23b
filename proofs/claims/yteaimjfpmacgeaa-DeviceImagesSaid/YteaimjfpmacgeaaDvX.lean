/- A device: Of refuses a number of texts. -/
import Derived.Test.YteaimjfpmacgeaaDvI
import Derived.Test.YteaimjfpmacgeaaTextA
namespace Go.Proofs.Yteaimjfpmacgeaa
open Go.RowKit
set_option linter.unusedVariables false

set_option maxRecDepth 100000 in
set_option maxHeartbeats 400000 in
theorem dof_no (v : Value) (pss : List (List Int)) (w : World) (hv : Sls w v pss) (h : ¬ (1 ≤ pss.length ∧ pss.length ≤ 16384)) :
    Calls Try.prog 33 #[v] w fun e w' => e = .returned (.tuple #[.pointer none, .int .i64 1]) ∧ w = w' := by
  obtain ⟨va, vc, rfl, hvc, hvm⟩ := hv.shape
  have HM := Lib.hid (dmay_any pss.length w)
  rw [show mayD pss.length = false from decide_eq_false (by omega)] at HM
  clear hv h
  go_enter Try.func33, Try.ntmps33
  go_wp2_with fail
  refine HM.out.mono ?_
  rintro e w1 ⟨rfl, rfl⟩
  go_wp2
  go_ret2
  exact ⟨rfl, rfl⟩

end Go.Proofs.Yteaimjfpmacgeaa
