/- The walk of the law WotsSigns. -/
import Derived.Test.YtililoojjfcfgaaDoorWotsN
import Derived.Test.YtililoojjfcfgaaDoorWotsC
import Derived.Test.YtililoojjfcfgaaDoorSame
namespace Go.Proofs.YtililoojjfcfgaaDoor
open Go.RowKit
set_option linter.unusedVariables false

theorem sgU_isB (size : Int) (seed : List Int) (idx : Int) (dd : List Int) (k : Nat) : ∀ p ∈ sgU size seed idx dd k, IsB p := fun p hp => by
  unfold sgU at hp
  obtain ⟨i, _, rfl⟩ := List.mem_map.1 hp
  exact chI_isB _ _ _ _ _ (secI_isB _ _ _ _) _
theorem signL_isB (size : Int) (seed : List Int) (idx : Int) (dg : List Int) : ∀ p ∈ signL size seed idx dg, IsB p := by
  unfold signL; split
  · exact sgU_isB _ _ _ _ _
  · intro p hp; cases hp


end Go.Proofs.YtililoojjfcfgaaDoor
