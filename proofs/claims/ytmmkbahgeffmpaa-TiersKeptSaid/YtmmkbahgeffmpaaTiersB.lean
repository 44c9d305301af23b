/- The walks of tiers.after, the reference's Keeps, tiers.best, tiers.Nearest and the reference's Nearest. -/
import Derived.Test.YtmmkbahgeffmpaaTiersA
namespace Go.Proofs.Ytmmkbahgeffmpaa
open Go.RowKit

def afterI (last e : Int) : Int := if 64 ≤ last - e then min (e - e % 64 + 64) (max (last - 63) (e + 1)) else e + 1

set_option maxHeartbeats 400000 in
theorem after_any (a b : Int) (ha' : a ≤ 1048576) (hb : 0 ≤ b) (hb' : b ≤ a) (w : World) :
    Calls Try.prog 38 #[.int .i64 a, .int .i64 b] w fun e w' => e = .returned (.int .i64 (afterI a b)) ∧ w = w' := by
  by_cases h : 64 ≤ a - b
  all_goals
    go_enter Try.func38, Try.ntmps38
    go_wp2
  all_goals
    go_ret
    exact ⟨ret_int (by unfold afterI; omega), rfl⟩

set_option maxHeartbeats 1000000 in
theorem refKeeps_any (a b : Int) (ha : -9223372036854775808 ≤ a) (ha' : a ≤ 9223372036854775807) (hb : -9223372036854775808 ≤ b) (hb' : b ≤ 9223372036854775807) (w : World) :
    Calls Try.prog 30 #[.int .i64 a, .int .i64 b] w fun e w' => e = .returned (.bool (keepsB a b)) ∧ w = w' := by
  go_enter Try.func30, Try.ntmps30
  go_wp2
  all_goals
    go_ret
    exact ⟨ret_bool (by rw [Bool.eq_iff_iff]; simp [keepsB]; omega), rfl⟩

/-- The greatest kept epoch that is not behind k. -/
def down (a : Int) : Nat → Int
  | 0 => 0
  | k + 1 => if keepsB a ((k : Int) + 1) then (k : Int) + 1 else down a k

theorem down_kept (a : Int) (k : Nat) (h : keepsB a k = true) : down a k = k := by
  cases k with
  | zero => rfl
  | succ k => simp only [down]; rw [if_pos (by simpa using h)]; simp

theorem down_step (a : Int) (k : Nat) (h : keepsB a ((k : Int) + 1) = false) : down a (k + 1) = down a k := by simp [down, h]

theorem keeps_true (a b : Int) (ha : -9223372036854775808 ≤ a) (ha' : a ≤ 9223372036854775807) (hb : -9223372036854775808 ≤ b) (hb' : b ≤ 9223372036854775807) (h : keepsB a b = true) (w : World) :
    Calls Try.prog 29 #[.int .i64 a, .int .i64 b] w fun e w' => e = .returned (.bool true) ∧ Below w.heap.size w w' := h ▸ keeps_any a b ha ha' hb hb' w
theorem keeps_false (a b : Int) (ha : -9223372036854775808 ≤ a) (ha' : a ≤ 9223372036854775807) (hb : -9223372036854775808 ≤ b) (hb' : b ≤ 9223372036854775807) (h : keepsB a b = false) (w : World) :
    Calls Try.prog 29 #[.int .i64 a, .int .i64 b] w fun e w' => e = .returned (.bool false) ∧ Below w.heap.size w w' := h ▸ keeps_any a b ha ha' hb hb' w
theorem refKeeps_true (a b : Int) (ha : -9223372036854775808 ≤ a) (ha' : a ≤ 9223372036854775807) (hb : -9223372036854775808 ≤ b) (hb' : b ≤ 9223372036854775807) (h : keepsB a b = true) (w : World) :
    Calls Try.prog 30 #[.int .i64 a, .int .i64 b] w fun e w' => e = .returned (.bool true) ∧ w = w' := h ▸ refKeeps_any a b ha ha' hb hb' w
theorem refKeeps_false (a b : Int) (ha : -9223372036854775808 ≤ a) (ha' : a ≤ 9223372036854775807) (hb : -9223372036854775808 ≤ b) (hb' : b ≤ 9223372036854775807) (h : keepsB a b = false) (w : World) :
    Calls Try.prog 30 #[.int .i64 a, .int .i64 b] w fun e w' => e = .returned (.bool false) ∧ w = w' := h ▸ refKeeps_any a b ha ha' hb hb' w

set_option maxHeartbeats 400000 in
theorem best_any (a : Int) (b e : Nat) (ha' : a ≤ 9223372036854775807) (hb : (b : Int) ≤ a) (he : e ≤ b) (hk : keepsB a e = true) (w : World) :
    Calls Try.prog 40 #[.int .i64 a, .int .i64 b, .int .i64 e] w fun r w' => r = .returned (.int .i64 (down a b)) ∧ Below w.heap.size w w' := by
  have hK := Lib.hid hk
  clear hk
  go_enter Try.func40, Try.ntmps40
  go_wp2
  go_loopw [7] (fun i wr => ∃ k : Nat, e ≤ k ∧ k ≤ b ∧ i = .int .i64 k ∧ Hid (down a k = down a b) ∧ Below w.heap.size w wr) (fun i _ => (intOf i).toNat)
  case atStart => exact ⟨b, he, Nat.le_refl _, rfl, rfl, Below.refl _ _⟩
  case round =>
    obtain ⟨k, hke, hkb, rfl, hd, hbr⟩ := hrel
    have hs := hbr.size
    by_cases hlt : e < k
    · by_cases hkk : keepsB a k = true
      · have HK := Lib.hid hkk
        clear hkk
        go_wp2_with (go_at_call 29; refine (keeps_true a k (by omega) (by omega) (by omega) (by omega) HK.out _).mono ?_; rintro e w' ⟨rfl, hb1⟩)
        go_ret
        exact ⟨ret_int (by rw [← hd.out, down_kept a k HK.out]), hbr.trans (hb1.mono hs)⟩
      · have HK := Lib.hid hkk
        clear hkk
        go_wp2_with (go_at_call 29; refine (keeps_false a k (by omega) (by omega) (by omega) (by omega) (by simpa using HK.out) _).mono ?_; rintro e w' ⟨rfl, hb1⟩)
        go_roundw
        case rel =>
          obtain ⟨k, rfl⟩ : ∃ m, k = m + 1 := ⟨k - 1, by omega⟩
          refine ⟨k, by omega, by omega, by go_num, ?_, hbr.trans (hb1.mono hs)⟩
          have h1 := hd.out
          rw [down_step a k (by simpa using HK.out)] at h1
          exact h1
        case measure => simp [intOf]; omega
    · obtain rfl : k = e := by omega
      go_wp2
      go_ret
      exact ⟨ret_int (by rw [← hd.out, down_kept a k hK.out]), hbr⟩

end Go.Proofs.Ytmmkbahgeffmpaa
