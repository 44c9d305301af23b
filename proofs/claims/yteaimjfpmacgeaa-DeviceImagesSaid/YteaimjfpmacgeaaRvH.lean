/- The reference's device: Of refuses a number of texts. -/
import Derived.Test.YteaimjfpmacgeaaRvF
namespace Go.Proofs.Yteaimjfpmacgeaa
open Go.RowKit
set_option linter.unusedVariables false

set_option maxRecDepth 100000 in
set_option maxHeartbeats 400000 in
theorem rof_no (v : Value) (pss : List (List Int)) (w : World) (hv : Sls w v pss) (h : ¬ (1 ≤ pss.length ∧ pss.length ≤ 16384)) :
    Calls Try.prog 34 #[v] w fun e w' => e = .returned (.tuple #[.pointer none, .int .i64 1]) ∧ w = w' := by
  obtain ⟨va, vc, rfl, hvc, hvm⟩ := hv.shape
  by_cases h1 : pss.length < 1
  · have hI1 : (pss.length : Int) < 1 := by omega
    clear hv h h1
    go_enter Try.func34, Try.ntmps34
    go_wp2
    go_ret2
    exact ⟨rfl, rfl⟩
  · have hI1 : ¬ (pss.length : Int) < 1 := by omega
    have hI2 : (16384 : Int) < (pss.length : Int) := by omega
    clear hv h h1
    go_enter Try.func34, Try.ntmps34
    go_wp2
    go_ret2
    exact ⟨rfl, rfl⟩

end Go.Proofs.Yteaimjfpmacgeaa
