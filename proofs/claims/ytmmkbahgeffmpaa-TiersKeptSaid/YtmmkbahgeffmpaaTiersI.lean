/- The walks of tiers.Gap and of the law TiersKept. -/
import Derived.Test.YtmmkbahgeffmpaaTiersH
namespace Go.Proofs.Ytmmkbahgeffmpaa
open Go.RowKit
set_option linter.unusedVariables false

theorem gap_none (a : Int) (h : 1048576 < a) (w : World) : Calls Try.prog 26 #[.int .i64 a] w fun e w' => e = .returned (.int .i64 0) ∧ w = w' := by
  go_enter Try.func26, Try.ntmps26
  go_wp2
  go_ret
  exact ⟨rfl, rfl⟩

theorem gap_neg (a : Int) (h : a < 0) (w : World) : Calls Try.prog 26 #[.int .i64 a] w fun e w' => e = .returned (.int .i64 0) ∧ w = w' := by
  have h2 : ¬ 1048576 < a := by omega
  go_enter Try.func26, Try.ntmps26
  go_wp2_with (go_at_call 24; refine (kept_none _ (Or.inl h) _).mono ?_; rintro e w1 ⟨rfl, rfl⟩)
  refine wp_loop_rounds 1 ?_
  rw [rounds_succ]
  go_wp2
  go_ret
  exact ⟨rfl, rfl⟩

theorem refGap_none (a : Int) (h : 1048576 < a) (w : World) : Calls Try.prog 27 #[.int .i64 a] w fun e w' => e = .returned (.int .i64 0) ∧ w = w' := by
  go_enter Try.func27, Try.ntmps27
  go_wp2
  go_ret
  exact ⟨rfl, rfl⟩

theorem refGap_neg (a : Int) (h : a < 0) (w : World) : Calls Try.prog 27 #[.int .i64 a] w fun e w' => e = .returned (.int .i64 0) ∧ w = w' := by
  have h2 : ¬ 1048576 < a := by omega
  go_enter Try.func27, Try.ntmps27
  go_wp2
  refine wp_loop_rounds 1 ?_
  rw [rounds_succ]
  go_wp2
  go_ret
  exact ⟨rfl, rfl⟩

set_option maxRecDepth 100000 in
set_option maxHeartbeats 2000000 in
theorem gap_any (a : Int) (h0 : 0 ≤ a) (h1 : a ≤ 1048576) (w : World) :
    Calls Try.prog 26 #[.int .i64 a] w fun e w' => e = .returned (.int .i64 (gapN a (a + 1).toNat)) ∧ Below w.heap.size w w' := by
  obtain ⟨n, hn⟩ : ∃ n : Nat, n = (a + 1).toNat := ⟨_, rfl⟩
  have HNn := Lib.hid hn
  have hna : (n : Int) = a + 1 := by omega
  have hfirst := kept_first a h0 n (by omega)
  have hlen := keptL_len a n
  have HNA := Lib.hid hna
  clear hn hna
  go_enter Try.func26, Try.ntmps26
  have h2 : ¬ 1048576 < a := by omega
  go_wp2_with fail
  refine (kept_any _ h0 h1 _).mono ?_
  rw [← HNn.out]
  rintro e w1 ⟨v, rfl, hs1, hb1⟩
  obtain ⟨ad, cap, rfl, hcl, hcm⟩ : ∃ ad cap, v = .slice ad ((keptL a n).map (Value.int .i64)).length cap ∧ ((keptL a n).map (Value.int .i64)).length ≤ cap ∧ cap ≤ maxLen := by obtain ⟨x, y, h1, h2, h3, _⟩ := hs1; exact ⟨x, y, h1, h2, h3⟩
  unfold maxLen at hcm
  simp only [List.length_map] at *
  go_wp2
  go_loop [3, 14] (fun g i => ∃ k : Nat, k ≤ (keptL a n).length ∧ i = .int .i64 k ∧ g = .int .i64 (gapN a ((keptL a n).getD k n).toNat)) (fun _ i => (keptL a n).length - (intOf i).toNat)
  case atStart =>
    refine ⟨0, by omega, rfl, ?_⟩
    have e : (keptL a n).getD 0 (n : Int) = 0 := by
      rw [← hfirst.2, List.getD_eq_getElem?_getD, List.getD_eq_getElem?_getD, List.getElem?_eq_getElem hfirst.1]; rfl
    rw [e]; rfl
  case round =>
    obtain ⟨k, hk, rfl, rfl⟩ := hrel
    by_cases hlt : k < (keptL a n).length
    · obtain ⟨m, d, e1, e2, h3, h4⟩ := kept_next a h0 n (by have := HNA.out; omega) k hlt
      obtain ⟨b, off, rfl, hbb, hx⟩ := hs1.ints hlt
      have hx1 := hx k hlt
      rw [e1] at hx1
      have e3 : (keptL a n).getD k (n : Int) = m := by rw [← e1, List.getD_eq_getElem?_getD, List.getD_eq_getElem?_getD, List.getElem?_eq_getElem hlt]; rfl
      have hgb := gapN_bd a m
      have E3 := Lib.hid (show gapN a ((keptL a n).getD k (n : Int)).toNat = gapN a m by rw [e3]; simp)
      have E4 := Lib.hid (show gapN a ((keptL a n).getD (k + 1) (n : Int)).toNat = max (gapN a m) d by rw [e2, ← gapN_run a m d h4]; congr 1)
      rw [E3.out]
      by_cases hlt2 : k + 1 < (keptL a n).length
      · have hx2 := hx (k + 1) hlt2
        have e5 : (keptL a n).getD (k + 1) 0 = m + (d + 1) := by rw [← e2, List.getD_eq_getElem?_getD, List.getD_eq_getElem?_getD, List.getElem?_eq_getElem hlt2]; rfl
        rw [e5] at hx2
        have hna := HNA.out
        have hk9 : (k : Int) ≤ 9223372036854774000 := by omega
        generalize hY : (m : Int) + (d + 1) = Y at *
        have hY0 : 0 ≤ Y := by omega
        have hY1 : Y ≤ 9223372036854774000 := by omega
        have hm1 : (m : Int) ≤ 9223372036854774000 := by omega
        have HY := Lib.hid hY
        generalize hL : (keptL a n).length = L at *
        have HL := Lib.hid hL
        generalize gapN a m = G at *
        clear hL hlen hcl hcm h3 hY
        clear hx e1 e2 e3 e5 h4 hna hfirst
        go_wp2
        all_goals
          go_round
          case rel => exact ⟨k + 1, by omega, by go_num, by have := HY.out; rw [E4.out]; exact congrArg _ (by omega)⟩
          case measure => simp [intOf]; omega
      · have e5 : (n : Int) = m + (d + 1) := by
          have : (keptL a n).getD (k + 1) (n : Int) = n := by simp [List.getD_eq_getElem?_getD, List.getElem?_eq_none (by omega : (keptL a n).length ≤ k + 1)]
          omega
        have hna := HNA.out
        have HQ := Lib.hid (show a + 1 = (m : Int) + (d + 1) by omega)
        have hk9 : (k : Int) ≤ 9223372036854774000 := by omega
        generalize hY : (m : Int) + (d + 1) = Y at *
        have hY0 : 0 ≤ Y := by omega
        have hY1 : Y ≤ 9223372036854774000 := by omega
        have hm1 : (m : Int) ≤ 9223372036854774000 := by omega
        have HY := Lib.hid hY
        generalize hL : (keptL a n).length = L at *
        have HL := Lib.hid hL
        generalize gapN a m = G at *
        clear hL hlen hcl hcm h3 hY
        clear hx e1 e2 e3 e5 h4 hna hfirst
        go_wp2
        all_goals
          go_round
          case rel => exact ⟨k + 1, by omega, by go_num, by have := HQ.out; have := HY.out; rw [E4.out]; exact congrArg _ (by omega)⟩
          case measure => simp [intOf]; omega
    · obtain rfl : k = (keptL a n).length := by omega
      have e : (keptL a n).getD (keptL a n).length (n : Int) = n := by simp [List.getD_eq_getElem?_getD]
      rw [e]
      clear e
      go_wp2
      go_ret
      exact ⟨ret_int (by rw [← HNn.out]), hb1⟩

end Go.Proofs.Ytmmkbahgeffmpaa
