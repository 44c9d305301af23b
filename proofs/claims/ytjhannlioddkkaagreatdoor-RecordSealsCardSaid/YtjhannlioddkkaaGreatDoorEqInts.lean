
/- The walk of slices.Equal at []int: whether two lists of numbers are the same. -/
import Derived.Test.YtjhannlioddkkaaGreatDoorRows
import Derived.Test.YtjhannlioddkkaaGreatDoorLib
namespace Go.Proofs.YtjhannlioddkkaaGreatDoor
open Go.RowKit

theorem differ_at {xs ys : List Int} {k : Nat} (h : xs.getD k 0 ≠ ys.getD k 0) : decide (xs = ys) = false := by
  simp only [decide_eq_false_iff_not]
  rintro rfl
  exact h rfl

theorem same_all {xs ys : List Int} (hl : xs.length = ys.length) (h : ∀ j, j < xs.length → xs.getD j 0 = ys.getD j 0) : decide (xs = ys) = true := by
  simp only [decide_eq_true_eq]
  refine List.ext_getElem hl fun j h1 h2 => ?_
  have := h j h1
  rwa [List.getD_eq_getElem?_getD, List.getD_eq_getElem?_getD, List.getElem?_eq_getElem h1, List.getElem?_eq_getElem h2] at this


end Go.Proofs.YtjhannlioddkkaaGreatDoor
