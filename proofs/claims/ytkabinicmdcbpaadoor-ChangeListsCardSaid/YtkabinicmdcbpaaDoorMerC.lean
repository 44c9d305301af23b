/- The walk of the law MerkleFew. -/
import Derived.Test.YtkabinicmdcbpaaDoorMerB
import Derived.Test.YtkabinicmdcbpaaDoorClone
import Derived.Test.YtkabinicmdcbpaaDoorShaE
namespace Go.Proofs.YtkabinicmdcbpaaDoor
open Go.RowKit
set_option linter.unusedVariables false

set_option maxHeartbeats 400000 in
/-- The root of one digest is the digest. -/
theorem root1_any (size : Int) (v : Value) (bs : List Int) (w : World) (hn : bs.length ≤ 140737488351232) (h : Sls w v [bs]) :
    Calls Tryd.prog 28 #[.int .i64 size, v] w fun e w' => ∃ x, e = .returned x ∧ Sl w' x (bs.map (Value.int .u8)) ∧ Below w.heap.size w w' := by
  obtain ⟨a, cap, rfl, hc, hm⟩ := h.shape
  obtain ⟨b, off, rfl, hb, u, hu, hs⟩ := h.at (k := 0) (by simp)
  simp only [List.getD_cons_zero, List.length_cons, List.length_nil, Nat.zero_add, Nat.add_zero] at *
  have HC := Lib.hid (sclone_any u bs w hn hs)
  clear hs h hn
  go_enter Tryd.func28, Tryd.ntmps28
  go_wp2_with fail
  refine HC.out.mono ?_
  rintro e w1 ⟨x, rfl, hx, hb1⟩
  go_wp2
  go_ret
  exact ⟨_, rfl, hx, hb1⟩

theorem outs545 : (outs 4 5 0 5).length = 1 := by decide +kernel

set_option maxHeartbeats 400000 in
theorem merAwake_any (w : World) : Calls Tryd.prog 26 #[] w fun e w' => e = .returned (.bool true) ∧ Below w.heap.size w w' := by
  have hB : IsB [1, 2, 3, 4] := by intro n hn; simp at hn; omega
  have HC := Lib.hid (fun w1 => count_any 5 4 5 w1 (by omega) (by omega))
  rw [outs545] at HC
  go_enter Tryd.func26, Tryd.ntmps26
  go_wp2_with fail
  have hs0 := Sl.lit w #[.int .u8 1, .int .u8 2, .int .u8 3, .int .u8 4] 5 (by simp [maxLen])
  have hb0 : Below w.heap.size w (w.alloc (.cells #[.int .u8 1, .int .u8 2, .int .u8 3, .int .u8 4] 5)) := (Below.refl _ _).alloc (Nat.le_refl _) _
  have hsz1 : (w.alloc (.cells #[.int .u8 1, .int .u8 2, .int .u8 3, .int .u8 4] 5)).heap.size = w.heap.size + 1 := by simp
  generalize (w.alloc (.cells #[.int .u8 1, .int .u8 2, .int .u8 3, .int .u8 4] 5)) = w1 at *
  have hL := Sls.litA [.slice (some ⟨w.heap.size, 0, none⟩) 4 4] 22 (show SlAll w1 [.slice (some ⟨w.heap.size, 0, none⟩) 4 4] [[1, 2, 3, 4]] from ⟨hs0, trivial⟩) (by simp [maxLen])
  rw [hsz1] at hL
  have hb1 := hb0.alloc hb0.size (.cells #[.slice (some ⟨w.heap.size, 0, none⟩) 4 4] 22)
  refine (root1_any 4 _ [1, 2, 3, 4] _ (by simp) hL).mono ?_
  rintro e w2 ⟨x, rfl, hx, hb2⟩
  have hb2 := hb1.trans (hb2.mono hb1.size)
  clear hL hb1 hb0 hs0 hsz1
  go_wp2_with fail
  refine (bytesEq_same _ _ [1, 2, 3, 4] _ (hx.below ((Below.refl _ _).alloc (Nat.le_refl _) _) (Nat.le_refl _)) (Sl.lit w2 #[.int .u8 1, .int .u8 2, .int .u8 3, .int .u8 4] _ (by simp [maxLen])) hB).mono ?_
  rintro e w3 ⟨rfl, rfl⟩
  have hb3 := hb2.alloc hb2.size (.cells #[.int .u8 1, .int .u8 2, .int .u8 3, .int .u8 4] 5)
  clear hx hb2
  go_wp2_with fail
  refine (HC.out _).mono ?_
  rintro e w4 ⟨rfl, hb4⟩
  have hb4 := hb3.trans (hb4.mono hb3.size)
  go_wp2
  go_ret
  exact ⟨rfl, hb4⟩

theorem bits_step {N b k : Nat} (h1 : N < 2 ^ b * (k + 1)) : N < 2 ^ (b + 1) * (k / 2 + 1) := by
  have h2 : 2 ^ b * (k + 1) ≤ 2 ^ b * (2 * (k / 2 + 1)) := Nat.mul_le_mul_left _ (by omega)
  rw [Nat.pow_succ, Nat.mul_assoc]
  omega
theorem bits_le {N b k : Nat} (hk : 0 < k) (h : 2 ^ b * k ≤ N) (hN : N ≤ 1048576) : b ≤ 20 := by
  have h1 : 2 ^ b * 1 ≤ 2 ^ b * k := Nat.mul_le_mul_left _ hk
  have h2 : 2 ^ b ≤ 2 ^ 20 := by omega
  exact (Nat.pow_le_pow_iff_right (by decide : 1 < 2)).1 h2
theorem bits_low {N b k : Nat} (h : 2 ^ b * k ≤ N) : 2 ^ (b + 1) * (k / 2) ≤ N := by
  have h2 : 2 ^ b * (2 * (k / 2)) ≤ 2 ^ b * k := Nat.mul_le_mul_left _ (by omega)
  rw [Nat.pow_succ, Nat.mul_assoc]
  omega

set_option maxHeartbeats 1000000 in
theorem merkleFew_walk (n0 f0 t0 : Int) (w : World) (ht : Tabs w) (a0 : -9223372036854775808 ≤ n0) (a1 : n0 ≤ 9223372036854775807) (b0 : -9223372036854775808 ≤ f0) (b1 : f0 ≤ 9223372036854775807) (c0 : -9223372036854775808 ≤ t0) (c1 : t0 ≤ 9223372036854775807) :
    Calls Tryd.prog 6 #[.int .i64 n0, .int .i64 f0, .int .i64 t0] w fun e w' => e = .returned (.bool true) ∧ Below w.heap.size w w' := by
  have h1 := u64_rem n0 1048576 (by omega) (by omega)
  generalize hL : wrap64 ((IntKind.u64.wrap n0).tmod 1048576) = L at h1
  obtain ⟨n, rfl⟩ : ∃ n : Nat, L = n := ⟨L.toNat, by omega⟩
  have h2 := u64_rem f0 (1 + (n : Int)) (by omega) (by omega)
  generalize hF : wrap64 ((IntKind.u64.wrap f0).tmod (1 + (n : Int))) = F at h2
  obtain ⟨f, rfl⟩ : ∃ n : Nat, F = n := ⟨F.toNat, by omega⟩
  have h3 := u64_rem t0 (1 + (n : Int) - (f : Int)) (by omega) (by omega)
  generalize hT : wrap64 ((IntKind.u64.wrap t0).tmod (1 + (n : Int) - (f : Int))) = T at h3
  obtain ⟨t, rfl⟩ : ∃ n : Nat, T = n := ⟨T.toNat, by omega⟩
  have HC1 := Lib.hid (fun w1 => count_any (1 + n) f (f + 1 + t) w1 (by omega) (by omega))
  have HC2 := Lib.hid (fun w1 => count_any (1 + n) 0 ((1 + n : Nat) : Int) w1 (by omega) (by omega))
  rw [show (outs 0 ((1 + n : Nat) : Int) 0 (1 + n)).length = 0 by rw [outs_none (.inr (by omega))]; rfl] at HC2
  have HO := Lib.hid (fun D (h : 1 + n ≤ 2 ^ D) => (outs_len D (1 + n) f (f + 1 + t) 0 h (by omega)).1)
  rw [show ((1 + n : Nat) : Int) = 1 + (n : Int) by omega] at HC1 HC2
  generalize (outs f (f + 1 + t) 0 (1 + n)).length = C at *
  go_enter Tryd.func6, Tryd.ntmps6
  go_wp2
  go_loop [7, 8] (fun s k => ∃ b q : Nat, s = .int .i64 b ∧ k = .int .i64 q ∧ b ≤ 21 ∧ q ≤ 1048576 ∧ Hid (2 ^ b * q ≤ 1 + n) ∧ Hid (1 + n < 2 ^ b * (q + 1))) (fun _ k => (intOf k).toNat)
  case atStart => exact ⟨0, 1 + n, rfl, by rw [show ((1 + n : Nat) : Int) = 1 + (n : Int) by omega], by omega, by omega, by show 2 ^ 0 * (1 + n) ≤ 1 + n; omega, by show 1 + n < 2 ^ 0 * (1 + n + 1); omega⟩
  case round =>
    obtain ⟨b, q, rfl, rfl, hb21, hq, hlo, hhi⟩ := hrel
    by_cases hq0 : 0 < q
    · have hb20 := bits_le hq0 hlo.out (by omega)
      have hqI : (0 : Int) < (q : Int) := by omega
      go_wp2
      go_round
      case rel => exact ⟨b + 1, q / 2, by go_num, by go_num, by omega, by omega, bits_low hlo.out, bits_step hhi.out⟩
      case measure => simp [intOf]; omega
    · obtain rfl : q = 0 := by omega
      have hC := HO.out b (by have := hhi.out; simp at this; omega)
      have hCI : (C : Int) ≤ 2 * (b : Int) := by omega
      go_wp2_with fail
      refine (HC1.out _).mono ?_
      rintro e w1 ⟨rfl, hb1⟩
      go_wp2_with fail
      refine (HC2.out _).mono ?_
      rintro e w2 ⟨rfl, hb2⟩
      have hb2 := below_trans2 hb1 hb2
      go_wp2_with fail
      refine (merAwake_any _).mono ?_
      rintro e w3 ⟨rfl, hb3⟩
      have hb3 := below_trans2 hb2 hb3
      go_wp2
      go_ret
      exact ⟨rfl, hb3⟩

end Go.Proofs.YtkabinicmdcbpaaDoor
