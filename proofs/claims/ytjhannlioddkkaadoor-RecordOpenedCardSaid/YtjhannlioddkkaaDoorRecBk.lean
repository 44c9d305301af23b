
/- The law that a record that was written is read, and bytes that are one are written as they were. -/
import Derived.Test.YtjhannlioddkkaaDoorRec8
namespace Go.Proofs.YtjhannlioddkkaaDoor
open Go.RowKit
set_option linter.unusedVariables false

theorem enc_short {size ep ti co : Int} {tr li : List Int} {ln : List (List Int)} (h : canI size ep ti tr co li ln) : (encI ep ti tr co li ln).length ≤ 1000 := by
  rw [← encTo_all]; exact encTo_len h _

theorem RecV.val {w : World} {v : Value} {ep ti co : Int} {tr li : List Int} {ln : List (List Int)} (h : RecV w v ep ti tr co li ln) : ∃ ta tn tc la lc lcc ka kc, v = .agg #[.int .i64 ep, .int .i64 ti, .slice ta tn tc, .int .i64 co, .slice la lc lcc, .slice ka ln.length kc] := by
  obtain ⟨vt, vl, vk, rfl, h1, h2, h3⟩ := h
  obtain ⟨_, _, _, rfl⟩ := h1.val
  obtain ⟨_, _, _, rfl⟩ := h2.val
  obtain ⟨_, _, rfl, _, _⟩ := h3.shape
  exact ⟨_, _, _, _, _, _, _, _, rfl⟩

end Go.Proofs.YtjhannlioddkkaaDoor
