/- The walks of tiers.Nearest and the reference's Nearest. -/
import Derived.Test.YtmmkbahgeffmpaaTiersB
namespace Go.Proofs.Ytmmkbahgeffmpaa
open Go.RowKit

def nearI (a b : Int) : Int := if b < 0 ∨ a < b then -1 else down a b.toNat

theorem keeps_64 (a b : Int) (h0 : 0 ≤ b) (h1 : b ≤ a) : keepsB a (b - b % 64) = true := by simp [keepsB]; omega

theorem best_int (a b e : Int) (ha' : a ≤ 9223372036854775807) (hb : b ≤ a) (h0 : 0 ≤ e) (he : e ≤ b) (hk : keepsB a e = true) (w : World) :
    Calls Try.prog 40 #[.int .i64 a, .int .i64 b, .int .i64 e] w fun r w' => r = .returned (.int .i64 (down a b.toNat)) ∧ Below w.heap.size w w' := by
  have h := best_any a b.toNat e.toNat ha' (by omega) (by omega) (by rw [Int.toNat_of_nonneg h0]; exact hk) w
  rw [Int.toNat_of_nonneg h0, Int.toNat_of_nonneg (by omega)] at h
  exact h

set_option maxHeartbeats 2000000 in
theorem near_any (a b : Int) (ha : -9223372036854775808 ≤ a) (ha' : a ≤ 9223372036854775807) (hb : -9223372036854775808 ≤ b) (hb' : b ≤ 9223372036854775807) (w : World) :
    Calls Try.prog 31 #[.int .i64 a, .int .i64 b] w fun e w' => e = .returned (.int .i64 (nearI a b)) ∧ Below w.heap.size w w' := by
  by_cases h0 : b < 0
  · go_enter Try.func31, Try.ntmps31
    go_wp2
    go_ret
    exact ⟨ret_int (by unfold nearI; rw [if_pos (Or.inl h0)]), Below.refl _ _⟩
  · by_cases h1 : a < b
    · go_enter Try.func31, Try.ntmps31
      go_wp2
      go_ret
      exact ⟨ret_int (by unfold nearI; rw [if_pos (Or.inr h1)]), Below.refl _ _⟩
    · obtain ⟨n, rfl⟩ : ∃ n : Nat, b = n := ⟨b.toNat, by omega⟩
      have HN := Lib.hid (show nearI a n = down a n by unfold nearI; rw [if_neg (by omega)]; simp)
      clear h0
      go_enter Try.func31, Try.ntmps31
      go_wp2_with (go_at_call 39; refine (all_any _).mono ?_; rintro e w' ⟨rfl, hb⟩)
      go_loopw [16] (fun i wr => ∃ k : Nat, k ≤ 3 ∧ i = .int .i64 k ∧ Below w.heap.size w wr) (fun i _ => 4 - (intOf i).toNat)
      case atStart => exact ⟨0, by omega, rfl, by assumption⟩
      case round =>
        obtain ⟨k, hk, rfl, hbr⟩ := hrel
        have hs := hbr.size
        have i0 := idx0
        have i1 := idx1
        have i2 := idx2
        have i3 := idx3
        obtain rfl | rfl | rfl | rfl : k = 0 ∨ k = 1 ∨ k = 2 ∨ k = 3 := by omega
        · by_cases hkk : keepsB a n = true
          · have HK := Lib.hid hkk
            clear hkk
            go_wp2_with (first | (go_at_call 29; refine (keeps_true a _ (by omega) (by omega) (by omega) (by omega) HK.out _).mono ?_; rintro e w' ⟨rfl, hb1⟩) | (go_at_call 40; refine (best_int a n _ (by omega) (by omega) (by omega) (by omega) HK.out _).mono ?_; rintro e w' ⟨rfl, hb2⟩))
            go_ret
            exact ⟨ret_int (by rw [HN.out]), ((hbr.alloc hs _).trans (hb1.mono (by simp; omega))).trans (hb2.mono (by have := hb1.size; simp at this; omega))⟩
          · have HK := Lib.hid hkk
            clear hkk
            go_wp2_with (go_at_call 29; refine (keeps_false a _ (by omega) (by omega) (by omega) (by omega) (by simpa using HK.out) _).mono ?_; rintro e w' ⟨rfl, hb1⟩)
            go_roundw
            case rel => exact ⟨1, by omega, rfl, (hbr.alloc hs _).trans (hb1.mono (by simp; omega))⟩
            case measure => simp [intOf]
        · by_cases hkk : keepsB a ((n : Int) - (n : Int) % 4) = true
          · have HK := Lib.hid hkk
            clear hkk
            go_wp2_with (first | (go_at_call 29; refine (keeps_true a _ (by omega) (by omega) (by omega) (by omega) HK.out _).mono ?_; rintro e w' ⟨rfl, hb1⟩) | (go_at_call 40; refine (best_int a n _ (by omega) (by omega) (by omega) (by omega) HK.out _).mono ?_; rintro e w' ⟨rfl, hb2⟩))
            go_ret
            exact ⟨ret_int (by rw [HN.out]), ((hbr.alloc hs _).trans (hb1.mono (by simp; omega))).trans (hb2.mono (by have := hb1.size; simp at this; omega))⟩
          · have HK := Lib.hid hkk
            clear hkk
            go_wp2_with (go_at_call 29; refine (keeps_false a _ (by omega) (by omega) (by omega) (by omega) (by simpa using HK.out) _).mono ?_; rintro e w' ⟨rfl, hb1⟩)
            go_roundw
            case rel => exact ⟨2, by omega, rfl, (hbr.alloc hs _).trans (hb1.mono (by simp; omega))⟩
            case measure => simp [intOf]
        · by_cases hkk : keepsB a ((n : Int) - (n : Int) % 16) = true
          · have HK := Lib.hid hkk
            clear hkk
            go_wp2_with (first | (go_at_call 29; refine (keeps_true a _ (by omega) (by omega) (by omega) (by omega) HK.out _).mono ?_; rintro e w' ⟨rfl, hb1⟩) | (go_at_call 40; refine (best_int a n _ (by omega) (by omega) (by omega) (by omega) HK.out _).mono ?_; rintro e w' ⟨rfl, hb2⟩))
            go_ret
            exact ⟨ret_int (by rw [HN.out]), ((hbr.alloc hs _).trans (hb1.mono (by simp; omega))).trans (hb2.mono (by have := hb1.size; simp at this; omega))⟩
          · have HK := Lib.hid hkk
            clear hkk
            go_wp2_with (go_at_call 29; refine (keeps_false a _ (by omega) (by omega) (by omega) (by omega) (by simpa using HK.out) _).mono ?_; rintro e w' ⟨rfl, hb1⟩)
            go_roundw
            case rel => exact ⟨3, by omega, rfl, (hbr.alloc hs _).trans (hb1.mono (by simp; omega))⟩
            case measure => simp [intOf]
        · by_cases hkk : keepsB a ((n : Int) - (n : Int) % 64) = true
          · have HK := Lib.hid hkk
            clear hkk
            go_wp2_with (first | (go_at_call 29; refine (keeps_true a _ (by omega) (by omega) (by omega) (by omega) HK.out _).mono ?_; rintro e w' ⟨rfl, hb1⟩) | (go_at_call 40; refine (best_int a n _ (by omega) (by omega) (by omega) (by omega) HK.out _).mono ?_; rintro e w' ⟨rfl, hb2⟩))
            go_ret
            exact ⟨ret_int (by rw [HN.out]), ((hbr.alloc hs _).trans (hb1.mono (by simp; omega))).trans (hb2.mono (by have := hb1.size; simp at this; omega))⟩
          · exact absurd (keeps_64 a n (by omega) (by omega)) hkk

set_option maxHeartbeats 400000 in
theorem refNear_any (a b : Int) (ha : -9223372036854775808 ≤ a) (ha' : a ≤ 9223372036854775807) (hb : -9223372036854775808 ≤ b) (hb' : b ≤ 9223372036854775807) (w : World) :
    Calls Try.prog 32 #[.int .i64 a, .int .i64 b] w fun e w' => e = .returned (.int .i64 (nearI a b)) ∧ w = w' := by
  by_cases h0 : b < 0
  · go_enter Try.func32, Try.ntmps32
    go_wp2
    go_ret
    exact ⟨ret_int (by unfold nearI; rw [if_pos (Or.inl h0)]), rfl⟩
  · by_cases h1 : a < b
    · go_enter Try.func32, Try.ntmps32
      go_wp2
      go_ret
      exact ⟨ret_int (by unfold nearI; rw [if_pos (Or.inr h1)]), rfl⟩
    · obtain ⟨n, rfl⟩ : ∃ n : Nat, b = n := ⟨b.toNat, by omega⟩
      have HN := Lib.hid (show nearI a n = down a n by unfold nearI; rw [if_neg (by omega)]; simp)
      clear h0
      go_enter Try.func32, Try.ntmps32
      go_wp2
      go_loop [1] (fun i => ∃ k : Nat, k ≤ n ∧ i = .int .i64 k ∧ Hid (down a k = down a n)) (fun i => (intOf i).toNat)
      case atStart => exact ⟨n, Nat.le_refl _, rfl, rfl⟩
      case round =>
        obtain ⟨k, hkb, rfl, hd⟩ := hrel
        by_cases hkk : keepsB a k = true
        · have HK := Lib.hid hkk
          clear hkk
          go_wp2_with (go_at_call 30; refine (refKeeps_true a k (by omega) (by omega) (by omega) (by omega) HK.out _).mono ?_; rintro e w' ⟨rfl, rfl⟩)
          go_ret
          exact ⟨ret_int (by rw [HN.out, ← hd.out, down_kept a k HK.out]), rfl⟩
        · have HK := Lib.hid hkk
          clear hkk
          have hk0 : 0 < k := by
            rcases Nat.eq_zero_or_pos k with h | h
            · subst h; exact absurd (show keepsB a ((0 : Nat) : Int) = true by simp [keepsB]; omega) HK.out
            · exact h
          go_wp2_with (go_at_call 30; refine (refKeeps_false a k (by omega) (by omega) (by omega) (by omega) (by simpa using HK.out) _).mono ?_; rintro e w' ⟨rfl, rfl⟩)
          go_round
          case rel =>
            obtain ⟨k, rfl⟩ : ∃ m, k = m + 1 := ⟨k - 1, by omega⟩
            refine ⟨k, by omega, by go_num, ?_⟩
            have h1 := hd.out
            rw [down_step a k (by simpa using HK.out)] at h1
            exact h1
          case measure => simp [intOf]; omega

end Go.Proofs.Ytmmkbahgeffmpaa
