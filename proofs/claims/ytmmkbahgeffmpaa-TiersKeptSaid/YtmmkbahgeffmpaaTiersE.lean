/- The walks of the tiers' awake, and of the laws TiersKeeps and TiersGone. -/
import Derived.Test.YtmmkbahgeffmpaaTiersD
import Derived.Test.YtmmkbahgeffmpaaEqInts
namespace Go.Proofs.Ytmmkbahgeffmpaa
open Go.RowKit

theorem eqInts_same (v1 v2 : Value) (xs : List Int) (w : World) (h1 : Sl w v1 (xs.map (Value.int .i64))) (h2 : Sl w v2 (xs.map (Value.int .i64))) :
    Calls Try.prog 23 #[v1, v2] w fun e w' => e = .returned (.bool true) ∧ Below w.heap.size w w' := by
  have h := eqInts_any v1 v2 xs xs w h1 h2
  simpa using h

theorem kept20 : (keptL 20 (20 + 1 : Int).toNat) = [0, 8, 12, 16, 17, 18, 19, 20] := by decide +kernel

set_option maxHeartbeats 400000 in
theorem tiersAwake_any (w : World) : Calls Try.prog 28 #[] w fun e w' => e = .returned (.bool true) ∧ Below w.heap.size w w' := by
  go_enter Try.func28, Try.ntmps28
  go_wp2_with (go_at_call 24; refine (kept_any 20 (by omega) (by omega) _).mono ?_; rintro e w1 ⟨v, rfl, hs1, hb1⟩)
  rw [kept20] at hs1
  go_wp2_with (go_at_call 23; refine (eqInts_same _ _ [0, 8, 12, 16, 17, 18, 19, 20] _ (hs1.below ((Below.refl _ _).alloc (Nat.le_refl _) _) (Nat.le_refl _)) (Sl.lit w1 #[.int .i64 0, .int .i64 8, .int .i64 12, .int .i64 16, .int .i64 17, .int .i64 18, .int .i64 19, .int .i64 20] _ (by simp [maxLen]))).mono ?_; rintro e w2 ⟨rfl, hb2⟩)
  go_ret
  exact ⟨rfl, (hb1.alloc hb1.size _).trans (hb2.mono (by simp; have := hb1.size; omega))⟩

set_option maxHeartbeats 1000000 in
theorem tiersKeeps_walk (a b : Int) (ha : -9223372036854775808 ≤ a) (ha' : a ≤ 9223372036854775807) (hb : -9223372036854775808 ≤ b) (hb' : b ≤ 9223372036854775807) (w : World) :
    Calls Try.prog 8 #[.int .i64 a, .int .i64 b] w fun e w' => e = .returned (.bool true) ∧ Below w.heap.size w w' := by
  go_enter Try.func8, Try.ntmps8
  go_wp2_with (first | (go_at_call 29; refine (keeps_any _ _ ha ha' hb hb' _).mono ?_; rintro e w1 ⟨rfl, hb1⟩) | (go_at_call 30; refine (refKeeps_any _ _ ha ha' hb hb' _).mono ?_; rintro e w2 ⟨rfl, rfl⟩) | (go_at_call 31; refine (near_any _ _ ha ha' hb hb' _).mono ?_; rintro e w3 ⟨rfl, hb3⟩) | (go_at_call 32; refine (refNear_any _ _ ha ha' hb hb' _).mono ?_; rintro e w4 ⟨rfl, rfl⟩) | (go_at_call 28; refine (tiersAwake_any _).mono ?_; rintro e w5 ⟨rfl, hb5⟩))
  go_ret
  exact ⟨rfl, below_trans2 (below_trans2 hb1 hb3) hb5⟩

theorem down_le (a : Int) (k : Nat) : 0 ≤ down a k ∧ down a k ≤ k := by
  induction k with
  | zero => simp [down]
  | succ k ih => simp only [down]; split <;> omega

theorem down_keeps (a : Int) (k : Nat) (h : (k : Int) ≤ a) : keepsB a (down a k) = true := by
  induction k with
  | zero => simp [down, keepsB]; omega
  | succ k ih =>
    simp only [down]
    split
    · assumption
    · exact ih (by omega)

theorem down_ge (a : Int) (k : Nat) (e : Nat) (he : e ≤ k) (h : keepsB a e = true) : (e : Int) ≤ down a k := by
  induction k with
  | zero => obtain rfl : e = 0 := by omega
            simp [down]
  | succ k ih =>
    simp only [down]
    split
    · omega
    · rename_i hn
      rcases Nat.lt_or_ge k e with h1 | h1
      · obtain rfl : e = k + 1 := by omega
        exact absurd h (by simpa using hn)
      · exact ih h1

/-- The nearest one is less than 64 away. -/
theorem near_gap (a b : Int) (h0 : 0 ≤ b) (h1 : b ≤ a) : 0 ≤ nearI a b ∧ nearI a b ≤ b ∧ b - nearI a b < 64 ∧ keepsB a (nearI a b) = true := by
  obtain ⟨n, rfl⟩ : ∃ n : Nat, b = n := ⟨b.toNat, by omega⟩
  have e : nearI a n = down a n := by unfold nearI; rw [if_neg (by omega)]; simp
  rw [e]
  have h2 := down_le a n
  have h3 := down_keeps a n h1
  have h4 := down_ge a n (n - n % 64) (by omega) (by
    have := keeps_64 a n (by omega) h1
    have e2 : ((n - n % 64 : Nat) : Int) = (n : Int) - (n : Int) % 64 := by omega
    rw [e2]; exact this)
  exact ⟨h2.1, h2.2, by omega, h3⟩

theorem gone_stays (last epoch later : Int) (h0 : 0 ≤ epoch) (h1 : epoch ≤ last) (h2 : last ≤ later) (h : keepsB last epoch = false) : keepsB later epoch = false := by
  simp only [keepsB, decide_eq_false_iff_not] at h ⊢
  omega

end Go.Proofs.Ytmmkbahgeffmpaa
