/- Trees of signing keys: keys that may not be; the law of New. -/
import Derived.Test.YtililoojjfcfgaaDoorMtsE
namespace Go.Proofs.YtililoojjfcfgaaDoor
open Go.RowKit
set_option linter.unusedVariables false

set_option maxHeartbeats 1000000 in
theorem refNew_no (size h : Int) (seed : List Int) (v : Value) (w : World) (hno : ¬ (canB size seed.length 0 = true ∧ 0 ≤ h ∧ h ≤ 8)) (hs : Sl w v (seed.map (Value.int .u8))) :
    Calls Tryd.prog 29 #[.int .i64 size, v, .int .i64 h] w fun e w' => e = .returned (.tuple #[.pointer none, .int .i64 1]) ∧ w = w' := by
  have HC := Lib.hid (refCan_any size v seed 0 w hs)
  obtain ⟨va, vn, vc, rfl⟩ := hs.val
  clear hs
  by_cases hc : canB size seed.length 0 = true
  · rw [hc] at HC
    by_cases h0 : h < 0
    · clear hno hc
      go_enter Tryd.func29, Tryd.ntmps29
      go_wp2_with fail
      refine HC.out.mono ?_
      rintro e w1 ⟨rfl, rfl⟩
      go_wp2
      go_ret2
      exact ⟨rfl, rfl⟩
    · have h8 : 8 < h := by
        rcases Int.lt_or_le 8 h with q | q
        · exact q
        · exact absurd ⟨hc, by omega, q⟩ hno
      clear hno hc
      go_enter Tryd.func29, Tryd.ntmps29
      go_wp2_with fail
      refine HC.out.mono ?_
      rintro e w1 ⟨rfl, rfl⟩
      go_wp2
      go_ret2
      exact ⟨rfl, rfl⟩
  · rw [Bool.not_eq_true] at hc
    rw [hc] at HC
    clear hno hc
    go_enter Tryd.func29, Tryd.ntmps29
    go_wp2_with fail
    refine HC.out.mono ?_
    rintro e w1 ⟨rfl, rfl⟩
    go_wp2
    go_ret2
    exact ⟨rfl, rfl⟩

theorem umod (x m : Int) (h0 : 0 < m) (h1 : m ≤ 1000) : 0 ≤ wrap64 ((IntKind.u64.wrap x).tmod m) ∧ wrap64 ((IntKind.u64.wrap x).tmod m) < m := by
  rw [IntKind.wrap_u64]
  have e : 0 ≤ x % 18446744073709551616 := Int.emod_nonneg _ (by decide)
  rw [Int.tmod_eq_emod_of_nonneg e]
  have e1 := Int.emod_nonneg (x % 18446744073709551616) (show m ≠ 0 by omega)
  have e2 := Int.emod_lt_of_pos (x % 18446744073709551616) h0
  unfold wrap64
  omega
theorem umod9 (x : Int) : 33 ≤ wrap64 (33 + wrap64 ((IntKind.u64.wrap x).tmod 9)) := by
  have := umod x 9 (by decide) (by decide)
  generalize wrap64 ((IntKind.u64.wrap x).tmod 9) = y at *
  unfold wrap64
  omega

set_option maxRecDepth 100000 in
set_option maxHeartbeats 2000000 in
theorem mtsNew_walk (size : Int) (v : Value) (seed : List Int) (h : Int) (w : World) (ht : Tabs w) (hz0 : -9223372036854775808 ≤ size) (hz1 : size ≤ 9223372036854775807) (hB : IsB seed) (hs : Sl w v (seed.map (Value.int .u8))) (hl : seed.length ≤ 140737488351232) (hh0 : -9223372036854775808 ≤ h) (hh1 : h ≤ 9223372036854775807) :
    Calls Tryd.prog 5 #[.int .i64 size, v, .int .i64 h] w fun e w' => e = .returned (.bool true) ∧ Below w.heap.size w w' := by
  have HA := Lib.hid (awake06_any w ht)
  have H1 := Lib.hid (fun h' (q : h' < 0 ∨ 8 < h') => mnew_no size h' seed v w (by omega) hs)
  have H3 := Lib.hid (fun h' (q : h' < 0 ∨ 8 < h') => refNew_no size h' seed v w (by omega) hs)
  have H2 := Lib.hid (fun s' (q : 33 ≤ s') => mnew_no s' 1 [] (.slice none 0 0) w (by omega) (Sl.nil _))
  obtain ⟨va, vn, vc, rfl⟩ := hs.val
  clear hs ht hB hl
  by_cases ha : 0 ≤ h
  · by_cases hb : h ≤ 8
    · have hq : IntKind.i64.wrap (-1 - h) = -1 - h := by rw [IntKind.wrap_i64]; omega
      go_enter Tryd.func5, Tryd.ntmps5
      go_wp2_with fail
      refine (H1.out _ (by omega)).mono ?_
      rintro e w1 ⟨rfl, rfl⟩
      go_wp2_with fail
      refine (H2.out _ ?_).mono ?_
      · exact umod9 _
      rintro e w1 ⟨rfl, rfl⟩
      go_wp2_with fail
      refine (H3.out _ (by omega)).mono ?_
      rintro e w1 ⟨rfl, rfl⟩
      go_wp2_with fail
      refine HA.out.mono ?_
      rintro e w2 ⟨rfl, hb2⟩
      go_wp2
      go_ret
      exact ⟨rfl, hb2⟩
    · skip
      go_enter Tryd.func5, Tryd.ntmps5
      go_wp2_with fail
      refine (H1.out _ (by omega)).mono ?_
      rintro e w1 ⟨rfl, rfl⟩
      go_wp2_with fail
      refine (H2.out _ ?_).mono ?_
      · exact umod9 _
      rintro e w1 ⟨rfl, rfl⟩
      go_wp2_with fail
      refine (H3.out _ (by omega)).mono ?_
      rintro e w1 ⟨rfl, rfl⟩
      go_wp2_with fail
      refine HA.out.mono ?_
      rintro e w2 ⟨rfl, hb2⟩
      go_wp2
      go_ret
      exact ⟨rfl, hb2⟩
  · skip
    go_enter Tryd.func5, Tryd.ntmps5
    go_wp2_with fail
    refine (H1.out _ (by omega)).mono ?_
    rintro e w1 ⟨rfl, rfl⟩
    go_wp2_with fail
    refine (H2.out _ ?_).mono ?_
    · exact umod9 _
    rintro e w1 ⟨rfl, rfl⟩
    go_wp2_with fail
    refine (H3.out _ (by omega)).mono ?_
    rintro e w1 ⟨rfl, rfl⟩
    go_wp2_with fail
    refine HA.out.mono ?_
    rintro e w2 ⟨rfl, hb2⟩
    go_wp2
    go_ret
    exact ⟨rfl, hb2⟩

end Go.Proofs.YtililoojjfcfgaaDoor
