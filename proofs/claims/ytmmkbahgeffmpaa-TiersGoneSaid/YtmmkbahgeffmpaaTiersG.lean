/- The walk of the law TiersGone. -/
import Derived.Test.YtmmkbahgeffmpaaTiersE
namespace Go.Proofs.Ytmmkbahgeffmpaa
open Go.RowKit
set_option linter.unusedVariables false

theorem u64_rem (x m : Int) (hm : 0 < m) (hm' : m ≤ 9223372036854775807) : 0 ≤ wrap64 ((IntKind.u64.wrap x).tmod m) ∧ wrap64 ((IntKind.u64.wrap x).tmod m) < m := by
  have h0 : 0 ≤ IntKind.u64.wrap x := by simp [IntKind.wrap, IntKind.signed, IntKind.bits]; omega
  have h1 : 0 ≤ (IntKind.u64.wrap x).tmod m := Int.tmod_nonneg _ h0
  have h2 : (IntKind.u64.wrap x).tmod m < m := Int.tmod_lt_of_pos _ hm
  have h3 : wrap64 ((IntKind.u64.wrap x).tmod m) = (IntKind.u64.wrap x).tmod m := by
    generalize (IntKind.u64.wrap x).tmod m = y at *
    unfold wrap64; omega
  omega

theorem u64_id (x : Int) (h0 : 0 ≤ x) (h1 : x ≤ 9223372036854775807) : IntKind.u64.wrap x = x := by simp [IntKind.wrap, IntKind.signed, IntKind.bits]; omega

set_option maxHeartbeats 1000000 in
theorem tiersGone_walk (a b c : Int) (ha : -9223372036854775808 ≤ a) (ha' : a ≤ 9223372036854775807) (hb : -9223372036854775808 ≤ b) (hb' : b ≤ 9223372036854775807) (hc : -9223372036854775808 ≤ c) (hc' : c ≤ 9223372036854775807) (w : World) :
    Calls Try.prog 9 #[.int .i64 a, .int .i64 b, .int .i64 c] w fun e w' => e = .returned (.bool true) ∧ Below w.heap.size w w' := by
  have h1 := u64_rem a 5000 (by omega) (by omega)
  generalize hL : wrap64 ((IntKind.u64.wrap a).tmod 5000) = L at h1
  have h2 := u64_rem b (L + 1) (by omega) (by omega)
  generalize hE : wrap64 ((IntKind.u64.wrap b).tmod (L + 1)) = E at h2
  have h3 := u64_rem c 5000 (by omega) (by omega)
  generalize hD : wrap64 ((IntKind.u64.wrap c).tmod 5000) = D at h3
  have hU := u64_id (L + 1) (by omega) (by omega)
  have hnz : ¬ (L + 1 = 0) := by omega
  have hg := near_gap (L + D) E (by omega) (by omega)
  generalize hM : nearI (L + D) E = M at hg
  obtain ⟨g1, g2, g3, g4⟩ := hg
  have HM := Lib.hid hM
  have G4 := Lib.hid g4
  clear hM g4
  cases hK : keepsB L E with
  | true =>
    have HK := Lib.hid hK
    clear hK
    go_enter Try.func9, Try.ntmps9
    go_wp2_with fail
    refine (near_any _ _ (by omega) (by omega) (by omega) (by omega) _).mono ?_
    rw [HM.out]
    rintro e w1 ⟨rfl, hb1⟩
    go_wp2_with fail
    refine (keeps_true _ _ (by omega) (by omega) (by omega) (by omega) HK.out _).mono ?_
    rintro e w2 ⟨rfl, hb2⟩
    go_wp2_with fail
    refine (keeps_true _ _ (by omega) (by omega) (by omega) (by omega) G4.out _).mono ?_
    rintro e w3 ⟨rfl, hb3⟩
    go_wp2_with fail
    refine (tiersAwake_any _).mono ?_
    rintro e w4 ⟨rfl, hb4⟩
    go_wp2
    go_ret
    exact ⟨rfl, below_trans2 (below_trans2 (below_trans2 hb1 hb2) hb3) hb4⟩
  | false =>
    have HN := Lib.hid (gone_stays L E (L + D) (by omega) (by omega) (by omega) hK)
    have HK := Lib.hid hK
    clear hK
    go_enter Try.func9, Try.ntmps9
    go_wp2_with fail
    refine (near_any _ _ (by omega) (by omega) (by omega) (by omega) _).mono ?_
    rw [HM.out]
    rintro e w1 ⟨rfl, hb1⟩
    go_wp2_with fail
    refine (keeps_false _ _ (by omega) (by omega) (by omega) (by omega) HK.out _).mono ?_
    rintro e w2 ⟨rfl, hb2⟩
    go_wp2_with fail
    refine (keeps_false _ _ (by omega) (by omega) (by omega) (by omega) HN.out _).mono ?_
    rintro e w3 ⟨rfl, hb3⟩
    go_wp2_with fail
    refine (keeps_true _ _ (by omega) (by omega) (by omega) (by omega) G4.out _).mono ?_
    rintro e w4 ⟨rfl, hb4⟩
    go_wp2_with fail
    refine (tiersAwake_any _).mono ?_
    rintro e w5 ⟨rfl, hb5⟩
    go_wp2
    go_ret
    exact ⟨rfl, below_trans2 (below_trans2 (below_trans2 (below_trans2 hb1 hb2) hb3) hb4) hb5⟩

end Go.Proofs.Ytmmkbahgeffmpaa
