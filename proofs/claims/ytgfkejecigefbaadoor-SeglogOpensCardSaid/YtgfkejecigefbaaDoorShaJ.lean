
/- The walks of the laws ShaSums, ShaBorders and ShaCuts. -/
import Derived.Test.YtgfkejecigefbaaDoorShaI
namespace Go.Proofs.YtgfkejecigefbaaDoor
open Go.RowKit
set_option linter.unusedVariables false


theorem Sl.take3 {w : World} {a : Option Addr} {n cap : Nat} {xs : List Value} (h : Sl w (.slice a n cap) xs) (m c : Nat) (hm : m ≤ xs.length) (hc1 : m ≤ c) (hc2 : c ≤ cap) : Sl w (.slice a m c) (xs.take m) := by
  obtain ⟨a', cap', h0, h1, h2, h3⟩ := h
  cases h0
  have hl : (xs.take m).length = m := by simp; omega
  refine ⟨a, c, by rw [hl], by rw [hl]; omega, by omega, fun hp => ?_⟩
  obtain ⟨b, off, rfl, hlt, hc⟩ := h3 (by omega)
  refine ⟨b, off, rfl, hlt, fun j u hu => hc j u ?_⟩
  rw [List.getElem?_take] at hu
  split at hu
  · exact hu
  · cases hu


end Go.Proofs.YtgfkejecigefbaaDoor
