/- The walk of the law TiersKept. -/
import Derived.Test.YtmmkbahgeffmpaaTiersI
namespace Go.Proofs.Ytmmkbahgeffmpaa
open Go.RowKit
set_option linter.unusedVariables false

theorem kept_both (a : Int) (w : World) : ∃ xs : List Int, (Calls Try.prog 24 #[.int .i64 a] w fun e w' => ∃ v, e = .returned v ∧ Sl w' v (xs.map (Value.int .i64)) ∧ Below w.heap.size w w') ∧
    ∀ w, Calls Try.prog 25 #[.int .i64 a] w fun e w' => ∃ v, e = .returned v ∧ Sl w' v (xs.map (Value.int .i64)) ∧ Below w.heap.size w w' := by
  by_cases h : a < 0 ∨ 1048576 < a
  · exact ⟨[], (kept_none a h w).mono fun e w' ⟨h1, h2⟩ => ⟨_, h1, Sl.nil _, h2 ▸ Below.refl _ _⟩, fun w => (refKept_none a h w).mono fun e w' ⟨h1, h2⟩ => ⟨_, h1, Sl.nil _, h2 ▸ Below.refl _ _⟩⟩
  · exact ⟨_, kept_any a (by omega) (by omega) w, fun w => refKept_any a (by omega) (by omega) w⟩

theorem gap_both (a : Int) : ∃ g : Int, (∀ w, Calls Try.prog 26 #[.int .i64 a] w fun e w' => e = .returned (.int .i64 g) ∧ Below w.heap.size w w') ∧
    ∀ w, Calls Try.prog 27 #[.int .i64 a] w fun e w' => e = .returned (.int .i64 g) ∧ w = w' := by
  by_cases h : a < 0
  · exact ⟨0, fun w => (gap_neg a h w).mono fun e w' ⟨h1, h2⟩ => ⟨h1, h2 ▸ Below.refl _ _⟩, fun w => refGap_neg a h w⟩
  · by_cases h' : 1048576 < a
    · exact ⟨0, fun w => (gap_none a h' w).mono fun e w' ⟨h1, h2⟩ => ⟨h1, h2 ▸ Below.refl _ _⟩, fun w => refGap_none a h' w⟩
    · exact ⟨_, fun w => gap_any a (by omega) (by omega) w, fun w => refGap_any a (by omega) (by omega) w⟩

set_option maxHeartbeats 1000000 in
theorem tiersKept_walk (a : Int) (ha : -9223372036854775808 ≤ a) (ha' : a ≤ 9223372036854775807) (w : World) :
    Calls Try.prog 7 #[.int .i64 a] w fun e w' => e = .returned (.bool true) ∧ Below w.heap.size w w' := by
  by_cases h1 : 3000 < a
  · by_cases h2 : a ≤ 1048576
    · obtain ⟨xs, hk1, hk2⟩ := kept_both (3000 + a % 3000) w
      obtain ⟨g, hg1, hg2⟩ := gap_both (3000 + a % 3000)
      have K1 := Lib.hid hk1
      have K2 := Lib.hid hk2
      have G1 := Lib.hid hg1
      have G2 := Lib.hid hg2
      clear hk1 hk2 hg1 hg2
      go_enter Try.func7, Try.ntmps7
      go_wp2_with fail
      refine K1.out.mono ?_
      rintro e w1 ⟨v, rfl, hs1, hb1⟩
      go_wp2_with fail
      refine (K2.out _).mono ?_
      rintro e w2 ⟨v2, rfl, hs2, hb2⟩
      go_wp2_with fail
      refine (eqInts_same _ _ xs _ (hs1.below hb2 (Nat.le_refl _)) hs2).mono ?_
      rintro e w3 ⟨rfl, hb3⟩
      go_wp2_with fail
      refine (G1.out _).mono ?_
      rintro e w4 ⟨rfl, hb4⟩
      go_wp2_with fail
      refine (G2.out _).mono ?_
      rintro e w5 ⟨rfl, rfl⟩
      go_wp2_with fail
      refine (tiersAwake_any _).mono ?_
      rintro e w5 ⟨rfl, hb5⟩
      go_wp2
      go_ret
      exact ⟨rfl, below_trans2 (below_trans2 (below_trans2 (below_trans2 hb1 hb2) hb3) hb4) hb5⟩
    · obtain ⟨xs, hk1, hk2⟩ := kept_both a w
      obtain ⟨g, hg1, hg2⟩ := gap_both a
      have K1 := Lib.hid hk1
      have K2 := Lib.hid hk2
      have G1 := Lib.hid hg1
      have G2 := Lib.hid hg2
      clear hk1 hk2 hg1 hg2
      go_enter Try.func7, Try.ntmps7
      go_wp2_with fail
      refine K1.out.mono ?_
      rintro e w1 ⟨v, rfl, hs1, hb1⟩
      go_wp2_with fail
      refine (K2.out _).mono ?_
      rintro e w2 ⟨v2, rfl, hs2, hb2⟩
      go_wp2_with fail
      refine (eqInts_same _ _ xs _ (hs1.below hb2 (Nat.le_refl _)) hs2).mono ?_
      rintro e w3 ⟨rfl, hb3⟩
      go_wp2_with fail
      refine (G1.out _).mono ?_
      rintro e w4 ⟨rfl, hb4⟩
      go_wp2_with fail
      refine (G2.out _).mono ?_
      rintro e w5 ⟨rfl, rfl⟩
      go_wp2_with fail
      refine (tiersAwake_any _).mono ?_
      rintro e w5 ⟨rfl, hb5⟩
      go_wp2
      go_ret
      exact ⟨rfl, below_trans2 (below_trans2 (below_trans2 (below_trans2 hb1 hb2) hb3) hb4) hb5⟩
  · obtain ⟨xs, hk1, hk2⟩ := kept_both a w
    obtain ⟨g, hg1, hg2⟩ := gap_both a
    have K1 := Lib.hid hk1
    have K2 := Lib.hid hk2
    have G1 := Lib.hid hg1
    have G2 := Lib.hid hg2
    clear hk1 hk2 hg1 hg2
    go_enter Try.func7, Try.ntmps7
    go_wp2_with fail
    refine K1.out.mono ?_
    rintro e w1 ⟨v, rfl, hs1, hb1⟩
    go_wp2_with fail
    refine (K2.out _).mono ?_
    rintro e w2 ⟨v2, rfl, hs2, hb2⟩
    go_wp2_with fail
    refine (eqInts_same _ _ xs _ (hs1.below hb2 (Nat.le_refl _)) hs2).mono ?_
    rintro e w3 ⟨rfl, hb3⟩
    go_wp2_with fail
    refine (G1.out _).mono ?_
    rintro e w4 ⟨rfl, hb4⟩
    go_wp2_with fail
    refine (G2.out _).mono ?_
    rintro e w5 ⟨rfl, rfl⟩
    go_wp2_with fail
    refine (tiersAwake_any _).mono ?_
    rintro e w5 ⟨rfl, hb5⟩
    go_wp2
    go_ret
    exact ⟨rfl, below_trans2 (below_trans2 (below_trans2 (below_trans2 hb1 hb2) hb3) hb4) hb5⟩

end Go.Proofs.Ytmmkbahgeffmpaa
