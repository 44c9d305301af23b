/- The walk of layer 12's awake. -/
import Derived.Test.YtpdajglcpkfonaaChk
import Derived.Test.YtpdajglcpkfonaaLib2
import Derived.Lib.SmallJoins
namespace Go.Proofs.Ytpdajglcpkfonaa
open Go.RowKit
set_option linter.unusedVariables false

set_option maxRecDepth 100000 in
set_option maxHeartbeats 1000000 in
theorem awake12_any (w : World) : Calls Try.prog 25 #[] w fun e w' => e = .returned (.bool true) ∧ Below w.heap.size w w' := by
  have kc := fun (w : World) (C : Array Value) (n c : Nat) => Lib.run_convert_bytes_const (P := Try.prog) w 23 5 C n c Try.underlying23 Try.underlying5
  go_enter Try.func25, Try.ntmps25
  have hb1 : Below w.heap.size w (w.alloc (.cells #[.int .i64 0, .int .i64 0, .int .i64 2, .int .i64 2, .int .i64 0, .int .i64 0, .int .i64 0, .int .i64 0] 49)) := (Below.refl _ _).alloc (Nat.le_refl _) _
  have kP := Blk.new w 49 #[.int .i64 0, .int .i64 0, .int .i64 2, .int .i64 2, .int .i64 0, .int .i64 0, .int .i64 0, .int .i64 0]
  have HC1 := Lib.hid (fun w1 => check_any 0 0 2 2 0 0 0 0 (.slice none 0 0) [] w1 (by simp) (Bds.nil w1))
  have HR1 := Lib.hid (show chkI 2 2 [] = 82 by decide)
  have HR2 := Lib.hid (show chkI 2 2 [([97], []), ([97], [])] = 80 by decide)
  have HC2 := Lib.hid (fun v w1 h => check_any 0 0 2 2 0 0 0 0 v [([97], []), ([97], [])] w1 (by intro p hp n hn; simp at hp; subst hp; simp at hn; omega) h)
  go_wp2_with fail
  refine (HC1.out _).mono ?_
  rintro e w2 ⟨rfl, hb2⟩
  rw [HR1.out]
  have kP := kP.belowS hb2
  have hb2 := hb1.trans (hb2.mono hb1.size)
  have q0 : w2.cell? ⟨w.heap.size, 0, none⟩ = some (.int .i64 0) := kP.cell 0
  have q1 : w2.cell? ⟨w.heap.size, 1, none⟩ = some (.int .i64 0) := kP.cell 1
  have q2 : w2.cell? ⟨w.heap.size, 2, none⟩ = some (.int .i64 2) := kP.cell 2
  have q3 : w2.cell? ⟨w.heap.size, 3, none⟩ = some (.int .i64 2) := kP.cell 3
  have q4 : w2.cell? ⟨w.heap.size, 4, none⟩ = some (.int .i64 0) := kP.cell 4
  have q5 : w2.cell? ⟨w.heap.size, 5, none⟩ = some (.int .i64 0) := kP.cell 5
  have q6 : w2.cell? ⟨w.heap.size, 6, none⟩ = some (.int .i64 0) := kP.cell 6
  have q7 : w2.cell? ⟨w.heap.size, 7, none⟩ = some (.int .i64 0) := kP.cell 7
  clear kP hb1 HC1
  have kc2 := kc (w2.alloc (.cells #[.int .u8 97] 5 (1, 2))) #[.int .u8 97] 1 1
  rw [show (w2.alloc (.cells #[.int .u8 97] 5 (1, 2))).heap.size = w2.heap.size + 1 by simp] at kc2
  go_wp2_with fail
  have hl1 := Sl.litf w2 #[.int .u8 97] 5 (1, 2) (by simp [maxLen])
  have hbA : Below w2.heap.size w2 (w2.alloc (.cells #[.int .u8 97] 5 (1, 2))) := (Below.refl _ _).alloc (Nat.le_refl _) _
  have hsz3 : (w2.alloc (.cells #[.int .u8 97] 5 (1, 2))).heap.size = w2.heap.size + 1 := by simp
  generalize (w2.alloc (.cells #[.int .u8 97] 5 (1, 2))) = w3 at *
  have hl2 := Sl.litf w3 #[.int .u8 97] 5 (1, 2) (by simp [maxLen])
  have hbB : Below w3.heap.size w3 (w3.alloc (.cells #[.int .u8 97] 5 (1, 2))) := (Below.refl _ _).alloc (Nat.le_refl _) _
  have hsz4 : (w3.alloc (.cells #[.int .u8 97] 5 (1, 2))).heap.size = w2.heap.size + 1 + 1 := by simp [hsz3]
  rw [hsz3] at hl2
  have hl1 := hl1.below hbB (Nat.le_refl _)
  have hb4 := hb2.trans ((hbA.trans (hbB.mono hbA.size)).mono hb2.size)
  generalize (w3.alloc (.cells #[.int .u8 97] 5 (1, 2))) = w4 at *
  have kN := Blk.new w4 74 #[.slice (some ⟨w2.heap.size, 0, none⟩) 1 1, .slice none 0 0, .slice (some ⟨w2.heap.size + 1, 0, none⟩) 1 1, .slice none 0 0]
  have hbC : Below w4.heap.size w4 (w4.alloc (.cells #[.slice (some ⟨w2.heap.size, 0, none⟩) 1 1, .slice none 0 0, .slice (some ⟨w2.heap.size + 1, 0, none⟩) 1 1, .slice none 0 0] 74)) := (Below.refl _ _).alloc (Nat.le_refl _) _
  have hS : Bds (w4.alloc (.cells #[.slice (some ⟨w2.heap.size, 0, none⟩) 1 1, .slice none 0 0, .slice (some ⟨w2.heap.size + 1, 0, none⟩) 1 1, .slice none 0 0] 74)) (.slice (some ⟨w2.heap.size + 1 + 1, 0, none⟩) 2 2) [([97], []), ([97], [])] := by
    rw [hsz4] at kN
    refine ⟨_, 2, rfl, by simp, by unfold maxLen; omega, fun _ => ⟨_, 0, rfl, kN.lt, fun i p hp => ?_⟩⟩
    match i, hp with
    | 0, hp =>
      simp at hp
      subst hp
      exact ⟨_, _, kN.cell 0, kN.cell 1, hl1.below hbC (Nat.le_refl _), Sl.nil _⟩
    | 1, hp =>
      simp at hp
      subst hp
      exact ⟨_, _, kN.cell 2, kN.cell 3, hl2.below hbC (Nat.le_refl _), Sl.nil _⟩
    | i + 2, hp => simp at hp
  refine (HC2.out _ _ hS).mono ?_
  rintro e w6 ⟨rfl, hb6⟩
  rw [HR2.out]
  have hb6 := (hb4.trans (hbC.mono hb4.size)).trans (hb6.mono (Nat.le_trans hb4.size hbC.size))
  go_wp2
  go_ret
  exact ⟨rfl, hb6⟩

end Go.Proofs.Ytpdajglcpkfonaa
