
/- The walks of bits.RotateLeft32, sha.sigma and sha.gamma. -/
import Derived.Test.YtgfkejecigefbaaDoorRows
import Derived.Test.YtgfkejecigefbaaDoorLib
import Derived.Laws.BitsLemmas
namespace Go.Proofs.YtgfkejecigefbaaDoor
open Go.RowKit
set_option linter.unusedVariables false

def rotl (x k : Int) : Int := bits .or .u32 (x * 2 ^ k.toNat % 4294967296) (x / 2 ^ (32 - k).toNat)

theorem u32_wraps (n : Int) (h0 : 0 ≤ n) (h1 : n < 2 ^ 32) : IntKind.u32.wrap n = n := by rw [IntKind.wrap_u32]; omega

theorem bits_u32_bd (o : BinOp) (a b : Int) : 0 ≤ bits o .u32 a b ∧ bits o .u32 a b ≤ 4294967295 := by
  have h : ∀ n : Int, 0 ≤ IntKind.u32.wrap n ∧ IntKind.u32.wrap n ≤ 4294967295 := fun n => by rw [IntKind.wrap_u32]; omega
  unfold bits
  exact h _

theorem rotl_bd (x k : Int) : 0 ≤ rotl x k ∧ rotl x k ≤ 4294967295 := bits_u32_bd _ _ _

theorem and31 (k : Int) (h0 : 0 ≤ k) (h1 : k < 32) : bits .and .u64 k 31 = k := by
  have h := bits_mask .u64 63 (by decide) (fun n h0 h1 => by rw [IntKind.wrap_u64]; omega) 5 (by decide) k h0 (by omega)
  have e : (2 : Int) ^ 5 - 1 = 31 := by decide
  rw [e] at h
  rw [h]; omega

theorem rot_any (x k : Int) (h0 : 0 ≤ x) (h1 : x ≤ 4294967295) (hk0 : 0 < k) (hk1 : k < 32) (w : World) :
    Calls Tryd.prog 125 #[.int .u32 x, .int .i64 k] w fun e w' => e = .returned (.int .u32 (rotl x k)) ∧ w = w' := by
  have hand := and31 k (by omega) hk1
  go_enter Tryd.func125, Tryd.ntmps125
  go_wp2
  go_ret
  exact ⟨rfl, rfl⟩

def sigmaI (x a b c : Int) : Int := bits .xor .u32 (bits .xor .u32 (rotl x (32 - a)) (rotl x (32 - b))) (rotl x (32 - c))
def gammaI (x a b c : Int) : Int := bits .xor .u32 (bits .xor .u32 (rotl x (32 - a)) (rotl x (32 - b))) (x / 2 ^ c.toNat)

theorem sigmaI_bd (x a b c : Int) : 0 ≤ sigmaI x a b c ∧ sigmaI x a b c ≤ 4294967295 := bits_u32_bd _ _ _
theorem gammaI_bd (x a b c : Int) : 0 ≤ gammaI x a b c ∧ gammaI x a b c ≤ 4294967295 := bits_u32_bd _ _ _

theorem sigma_any (x a b c : Int) (h0 : 0 ≤ x) (h1 : x ≤ 4294967295) (ha0 : 0 < a) (ha1 : a < 32) (hb0 : 0 < b) (hb1 : b < 32) (hc0 : 0 < c) (hc1 : c < 32) (w : World) :
    Calls Tryd.prog 109 #[.int .u32 x, .int .i64 a, .int .i64 b, .int .i64 c] w fun e w' => e = .returned (.int .u32 (sigmaI x a b c)) ∧ w = w' := by
  go_enter Tryd.func109, Tryd.ntmps109
  go_wp2_with (go_at_call 125; refine (rot_any _ _ h0 h1 (by omega) (by omega) _).mono ?_; rintro e w1 ⟨rfl, rfl⟩)
  go_ret
  exact ⟨rfl, rfl⟩

theorem gamma_any (x a b c : Int) (h0 : 0 ≤ x) (h1 : x ≤ 4294967295) (ha0 : 0 < a) (ha1 : a < 32) (hb0 : 0 < b) (hb1 : b < 32) (hc0 : 0 < c) (hc1 : c < 32) (w : World) :
    Calls Tryd.prog 124 #[.int .u32 x, .int .i64 a, .int .i64 b, .int .i64 c] w fun e w' => e = .returned (.int .u32 (gammaI x a b c)) ∧ ∃ n, w' = w.drewN n := by
  go_enter Tryd.func124, Tryd.ntmps124
  go_wp2_with fail
  go_quiet ((go_at_call 125; exact Calls.quiet_of_same ((rot_any _ _ h0 h1 (by omega) (by omega) _).mono fun _ _ ⟨h, h'⟩ => ⟨h, h'.symm⟩)))
  go_wp2
  go_ret
  exact ⟨rfl, _, rfl⟩

end Go.Proofs.YtgfkejecigefbaaDoor
