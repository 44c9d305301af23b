/- The walks of tiers.all and tiers.Keeps. -/
import Derived.Test.YtmmkbahgeffmpaaRows
import Derived.Test.YtmmkbahgeffmpaaLib
namespace Go.Proofs.Ytmmkbahgeffmpaa
open Go.RowKit

set_option maxHeartbeats 400000 in
theorem all_any (w : World) :
    Calls Try.prog 39 #[] w fun e w' => e = .returned (.agg #[.int .i64 1, .int .i64 4, .int .i64 4, .int .i64 16, .int .i64 16, .int .i64 64, .int .i64 64, .int .i64 1152921504606846976]) ∧ Below w.heap.size w w' := by
  go_enter Try.func39, Try.ntmps39
  go_wp2
  refine bodyPost_ret (v := .agg #[.int .i64 1, .int .i64 4, .int .i64 4, .int .i64 16, .int .i64 16, .int .i64 64, .int .i64 64, .int .i64 1152921504606846976]) (by simp [results, Try.results39, go_sem]) rfl ⟨rfl, ?_⟩
  exact (Below.refl _ _).alloc (Nat.le_refl _) _

theorem idx0 (w : World) : (Instr.index 65 (.agg #[.int .i64 1, .int .i64 4, .int .i64 4, .int .i64 16, .int .i64 16, .int .i64 64, .int .i64 64, .int .i64 1152921504606846976]) (.int .i64 0)).run Try.prog w = .ok (.agg #[.int .i64 1, .int .i64 4]) w := by kernel_rfl
theorem idx1 (w : World) : (Instr.index 65 (.agg #[.int .i64 1, .int .i64 4, .int .i64 4, .int .i64 16, .int .i64 16, .int .i64 64, .int .i64 64, .int .i64 1152921504606846976]) (.int .i64 1)).run Try.prog w = .ok (.agg #[.int .i64 4, .int .i64 16]) w := by kernel_rfl
theorem idx2 (w : World) : (Instr.index 65 (.agg #[.int .i64 1, .int .i64 4, .int .i64 4, .int .i64 16, .int .i64 16, .int .i64 64, .int .i64 64, .int .i64 1152921504606846976]) (.int .i64 2)).run Try.prog w = .ok (.agg #[.int .i64 16, .int .i64 64]) w := by kernel_rfl
theorem idx3 (w : World) : (Instr.index 65 (.agg #[.int .i64 1, .int .i64 4, .int .i64 4, .int .i64 16, .int .i64 16, .int .i64 64, .int .i64 64, .int .i64 1152921504606846976]) (.int .i64 3)).run Try.prog w = .ok (.agg #[.int .i64 64, .int .i64 1152921504606846976]) w := by kernel_rfl

def keepsB (last e : Int) : Bool := decide (0 ≤ e ∧ e ≤ last ∧ (e % 64 = 0 ∨ (e % 16 = 0 ∧ last - e < 64) ∨ (e % 4 = 0 ∧ last - e < 16) ∨ last - e < 4))

def noneB (k : Nat) (a b : Int) : Prop := (1 ≤ k → ¬ (a - b < 4)) ∧ (2 ≤ k → ¬ (b % 4 = 0 ∧ a - b < 16)) ∧ (3 ≤ k → ¬ (b % 16 = 0 ∧ a - b < 64)) ∧ (4 ≤ k → ¬ (b % 64 = 0))

set_option maxHeartbeats 1000000 in
theorem keeps_any (a b : Int) (ha : -9223372036854775808 ≤ a) (ha' : a ≤ 9223372036854775807) (hb : -9223372036854775808 ≤ b) (hb' : b ≤ 9223372036854775807) (w : World) :
    Calls Try.prog 29 #[.int .i64 a, .int .i64 b] w fun e w' => e = .returned (.bool (keepsB a b)) ∧ Below w.heap.size w w' := by
  by_cases h0 : b < 0
  · go_enter Try.func29, Try.ntmps29
    go_wp2
    go_ret
    exact ⟨by simp [keepsB]; omega, Below.refl _ _⟩
  · by_cases h1 : a < b
    · go_enter Try.func29, Try.ntmps29
      go_wp2
      go_ret
      exact ⟨by simp [keepsB]; omega, Below.refl _ _⟩
    · go_enter Try.func29, Try.ntmps29
      go_wp2_with (go_at_call 39; refine (all_any _).mono ?_; rintro e w' ⟨rfl, hb⟩)
      go_loopw [15] (fun i wr => ∃ k : Nat, k ≤ 4 ∧ i = .int .i64 k ∧ Hid (noneB k a b) ∧ Below w.heap.size w wr) (fun i _ => 4 - (intOf i).toNat)
      case atStart => exact ⟨0, by omega, rfl, by unfold Hid noneB; omega, hb⟩
      case round =>
        obtain ⟨k, hk, rfl, hn, hbr⟩ := hrel
        have hs := hbr.size
        have i0 := idx0
        have i1 := idx1
        have i2 := idx2
        have i3 := idx3
        obtain rfl | rfl | rfl | rfl | rfl : k = 0 ∨ k = 1 ∨ k = 2 ∨ k = 3 ∨ k = 4 := by omega
        · go_wp2
          · go_roundw
            case rel => exact ⟨1, by omega, rfl, by unfold Hid noneB; omega, hbr.alloc hs _⟩
            case measure => simp [intOf]
          · go_ret
            exact ⟨by simp [keepsB]; omega, hbr.alloc hs _⟩
        · go_wp2
          all_goals first
          | (go_roundw
             case rel => exact ⟨2, by omega, rfl, by unfold Hid noneB at *; omega, hbr.alloc hs _⟩
             case measure => simp [intOf])
          | (go_ret
             exact ⟨by simp [keepsB]; unfold Hid noneB at *; omega, hbr.alloc hs _⟩)
        · go_wp2
          all_goals first
          | (go_roundw
             case rel => exact ⟨3, by omega, rfl, by unfold Hid noneB at *; omega, hbr.alloc hs _⟩
             case measure => simp [intOf])
          | (go_ret
             exact ⟨by simp [keepsB]; unfold Hid noneB at *; omega, hbr.alloc hs _⟩)
        · go_wp2
          all_goals first
          | (go_roundw
             case rel => exact ⟨4, by omega, rfl, by unfold Hid noneB at *; omega, hbr.alloc hs _⟩
             case measure => simp [intOf])
          | (go_ret
             exact ⟨by simp [keepsB]; unfold Hid noneB at *; omega, hbr.alloc hs _⟩)
        · go_wp2
          go_ret
          exact ⟨by simp [keepsB]; unfold Hid noneB at *; omega, hbr⟩

end Go.Proofs.Ytmmkbahgeffmpaa
