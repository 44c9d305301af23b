
/- The walks of bytes.HasPrefix, of the sums' awake, and of the law ShaBlocks. -/
import Derived.Test.YtgfkejecigefbaaDoorShaD
import Derived.Test.YtgfkejecigefbaaDoorBytes
import Derived.Lib.SlBytesConst
namespace Go.Proofs.YtgfkejecigefbaaDoor
open Go.RowKit
set_option linter.unusedVariables false

theorem IsB.at {xs : List Int} (h : IsB xs) : ∀ j, 0 ≤ xs.getD j 0 ∧ xs.getD j 0 ≤ 255 := fun j => h.getD j

theorem sumI_isB (bs : List Int) : IsB (sumI bs) := by
  intro x hx
  unfold sumI at hx
  obtain ⟨i, _, rfl⟩ := List.mem_map.1 hx
  unfold outI; omega

theorem sumI_len (bs : List Int) : (sumI bs).length = 32 := by simp [sumI]


theorem sum_abc : (sumI [97, 98, 99]).take 4 = [186, 120, 22, 191] := by decide +kernel


theorem refBlocks_any (n : Nat) (h : n ≤ 9223372036854770000) (w : World) :
    Calls Tryd.prog 131 #[.int .i64 n] w fun e w' => e = .returned (.int .i64 (blk n)) ∧ w = w' := by
  go_enter Tryd.func131, Tryd.ntmps131
  go_wp2
  go_ret
  exact ⟨ret_int (by unfold blk; omega), rfl⟩

theorem blocks_neg (n : Int) (h : n < 0) (h2 : -9223372036854775808 ≤ n) (w : World) :
    Calls Tryd.prog 85 #[.int .i64 n] w fun e w' => e = .returned (.int .i64 1) ∧ w = w' := by
  go_enter Tryd.func85, Tryd.ntmps85
  go_wp2
  go_ret
  exact ⟨rfl, rfl⟩

theorem u64_rem (x m : Int) (hm : 0 < m) (hm' : m ≤ 9223372036854775807) : 0 ≤ wrap64 ((IntKind.u64.wrap x).tmod m) ∧ wrap64 ((IntKind.u64.wrap x).tmod m) < m := by
  have h0 : 0 ≤ IntKind.u64.wrap x := by simp [IntKind.wrap, IntKind.signed, IntKind.bits]; omega
  have h1 : 0 ≤ (IntKind.u64.wrap x).tmod m := Int.tmod_nonneg _ h0
  have h2 : (IntKind.u64.wrap x).tmod m < m := Int.tmod_lt_of_pos _ hm
  have h3 : wrap64 ((IntKind.u64.wrap x).tmod m) = (IntKind.u64.wrap x).tmod m := by
    generalize (IntKind.u64.wrap x).tmod m = y at *
    unfold wrap64; omega
  omega


end Go.Proofs.YtgfkejecigefbaaDoor
