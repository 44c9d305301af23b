/- The walk of awake of the layer of texts. -/
import Derived.Test.YtpdajglcpkfonaaTextB1
import Derived.Test.YtpdajglcpkfonaaLib2
import Derived.Lib.SmallJoins
namespace Go.Proofs.Ytpdajglcpkfonaa
open Go.RowKit
set_option linter.unusedVariables false

theorem textAb : textI 1 [[97, 98], []] = [1, 0, 2, 97, 98, 0, 0] := by decide
theorem codeAb : codeT 1 [[97, 98], []] = 0 := by decide
theorem contAb : contT 1 [[97, 98], []] = [1, 0, 2, 97, 98, 0, 0] := by decide

set_option maxHeartbeats 400000 in
theorem textsAwake_any (w : World) : Calls Try.prog 13 #[] w fun e w' => e = .returned (.bool true) ∧ Below w.heap.size w w' := by
  have hB : IsB [1, 0, 2, 97, 98, 0, 0] := by intro n hn; simp at hn; omega
  have kc := fun (w : World) (C : Array Value) (n c : Nat) => Lib.run_convert_bytes_const (P := Try.prog) w 23 5 C n c Try.underlying23 Try.underlying5
  go_enter Try.func13, Try.ntmps13
  go_wp2_with fail
  have hb0 : Below w.heap.size w (w.alloc (.cells #[.int .u8 97, .int .u8 98] 5 (2, 3))) := (Below.refl _ _).alloc (Nat.le_refl _) _
  have hs0 := Sl.litf w #[.int .u8 97, .int .u8 98] 5 (2, 3) (by simp [maxLen])
  have hsz1 : (w.alloc (.cells #[.int .u8 97, .int .u8 98] 5 (2, 3))).heap.size = w.heap.size + 1 := by simp
  generalize (w.alloc (.cells #[.int .u8 97, .int .u8 98] 5 (2, 3))) = w1 at *
  have hb1 : Below w1.heap.size w1 (w1.alloc (.cells #[.slice (some ⟨w.heap.size, 0, none⟩) 2 2, .slice none 0 0] 23)) := (Below.refl _ _).alloc (Nat.le_refl _) _
  have hS : Sls (w1.alloc (.cells #[.slice (some ⟨w.heap.size, 0, none⟩) 2 2, .slice none 0 0] 23)) (.slice (some ⟨w1.heap.size, 0, none⟩) 2 2) [[97, 98], []] := by
    refine ⟨[.slice (some ⟨w.heap.size, 0, none⟩) 2 2, .slice none 0 0], Sl.lit w1 #[.slice (some ⟨w.heap.size, 0, none⟩) 2 2, .slice none 0 0] 23 (by simp [maxLen]), rfl, fun i u bs hu hp => ?_⟩
    match i, hu, hp with
    | 0, hu, hp =>
      simp at hu hp
      subst hu hp
      exact hs0.below hb1 (Nat.le_refl _)
    | 1, hu, hp =>
      simp at hu hp
      subst hu hp
      exact Sl.nil _
    | i + 2, hu, hp => simp at hu
  have hb2 := hb0.trans (hb1.mono hb0.size)
  have hszq := hb2.size
  rw [hsz1] at hS
  have hT := text_any 1 _ [[97, 98], []] _ (by decide) (by decide) (by decide) hS
  rw [codeAb, contAb] at hT
  refine hT.mono ?_
  rintro e w2 ⟨x, rfl, hs2, hb3⟩
  have hb4 := below_trans2 hb2 hb3
  clear hsz1 hb0 hb1 hb2 hb3 hS hs0 kc hT
  go_wp2_with fail
  refine (bytesEq_same _ _ [1, 0, 2, 97, 98, 0, 0] _ (hs2.below ((Below.refl _ _).alloc (Nat.le_refl _) _) (Nat.le_refl _)) (Sl.lit w2 #[.int .u8 1, .int .u8 0, .int .u8 2, .int .u8 97, .int .u8 98, .int .u8 0, .int .u8 0] _ (by simp [maxLen])) hB).mono ?_
  rintro e w3 ⟨rfl, rfl⟩
  go_wp2
  go_ret
  exact ⟨rfl, hb4.alloc hb4.size _⟩

end Go.Proofs.Ytpdajglcpkfonaa
