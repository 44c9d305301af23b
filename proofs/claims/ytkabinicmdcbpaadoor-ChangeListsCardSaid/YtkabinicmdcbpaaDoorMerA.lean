/- The walks of bits.Len and split. -/
import Derived.Test.YtkabinicmdcbpaaDoorLib2
import Derived.Test.YtkabinicmdcbpaaDoorRows
import Derived.Test.YtkabinicmdcbpaaDoorFewP
import Derived.Lib.BitFns
import Derived.Lib.ItoaNum
import Derived.Test.YtkabinicmdcbpaaDoorLen64
namespace Go.Proofs.YtkabinicmdcbpaaDoor
open Go.RowKit
set_option linter.unusedVariables false

theorem len_any (x : Int) (w : World) (h0 : 0 ≤ x) (h1 : x ≤ 18446744073709551615) :
    Calls Tryd.prog 106 #[.int .u64 x] w fun e w' => e = .returned (.int .i64 (Lib.bitLen x.toNat)) ∧ w = w' := by
  go_enter Tryd.func106, Tryd.ntmps106
  go_wp2_with fail
  refine (len64_any x w h0 h1).mono ?_
  rintro e w1 ⟨rfl, rfl⟩
  go_wp2
  go_ret
  exact ⟨rfl, rfl⟩

theorem bitLen_log2 (x : Nat) (h : x ≠ 0) (h1 : x < 2 ^ 64) : Lib.bitLen x = x.log2 + 1 := by
  obtain ⟨a, b, c⟩ := Lib.bitLenAux_bounds 64 x h1 h
  have := (Nat.log2_eq_iff (n := x) (k := Lib.bitLenAux 64 x - 1) h).2 ⟨b, by rw [Nat.sub_add_cancel a]; exact c⟩
  unfold Lib.bitLen; omega

theorem half_int (n : Nat) (L : Nat) (h : L ≤ 61) (e : half n = 2 ^ L) : (half n : Int) = wrap64 (2 ^ L) := by
  have h1 : 2 ^ L ≤ 2 ^ 61 := Nat.pow_le_pow_right (by decide) h
  have h2 : ((2 ^ L : Nat) : Int) = (2 : Int) ^ L := by simp
  rw [e, ← h2]
  unfold wrap64
  generalize 2 ^ L = x at *
  omega

set_option maxHeartbeats 400000 in
theorem split_any (n : Nat) (w : World) (h0 : 2 ≤ n) (h1 : n ≤ 2305843009213693952) :
    Calls Tryd.prog 77 #[.int .i64 n] w fun e w' => e = .returned (.int .i64 (half n)) ∧ w = w' := by
  have hb := bitLen_log2 (n - 1) (by omega) (by omega)
  have hl : (n - 1).log2 ≤ 61 := by
    have := Nat.log2_self_le (n := n - 1) (by omega)
    have : 2 ^ (n - 1).log2 < 2 ^ 62 := by omega
    have := (Nat.pow_lt_pow_iff_right (by decide : 1 < 2)).1 this
    omega
  have HH := Lib.hid (half_int n (n - 1).log2 hl rfl)
  have HL := Lib.hid (len_any ((n : Int) - 1) w (by omega) (by omega))
  rw [show ((n : Int) - 1).toNat = n - 1 by omega, hb] at HL
  generalize (n - 1).log2 = L at *
  clear hb
  go_enter Tryd.func77, Tryd.ntmps77
  go_wp2_with fail
  refine HL.out.mono ?_
  rintro e w1 ⟨rfl, rfl⟩
  go_wp2
  go_ret
  exact ⟨ret_int HH.out.symm, rfl⟩

end Go.Proofs.YtkabinicmdcbpaaDoor
