/- The walks of tiers.Kept and the reference's Kept. -/
import Derived.Test.YtmmkbahgeffmpaaTiersC
namespace Go.Proofs.Ytmmkbahgeffmpaa
open Go.RowKit

def keptL (a : Int) (e : Nat) : List Int := ((List.range e).filter (fun k : Nat => keepsB a k)).map (fun k : Nat => (k : Int))

theorem keptL_len (a : Int) (e : Nat) : (keptL a e).length ≤ e := by
  unfold keptL
  rw [List.length_map]
  exact Nat.le_trans (List.length_filter_le _ _) (by simp)

theorem keptL_yes (a : Int) (e : Nat) (h : keepsB a e = true) : keptL a (e + 1) = keptL a e ++ [(e : Int)] := by
  simp [keptL, List.range_succ, List.filter_append, h]

theorem keptL_no (a : Int) (e : Nat) (h : keepsB a e = false) : keptL a (e + 1) = keptL a e := by
  simp [keptL, List.range_succ, List.filter_append, h]

theorem keptL_skip (a : Int) (e d : Nat) (h : ∀ k : Nat, e ≤ k → k < e + d → keepsB a k = false) : keptL a (e + d) = keptL a e := by
  induction d with
  | zero => rfl
  | succ d ih => rw [← Nat.add_assoc, keptL_no a (e + d) (h _ (by omega) (by omega))]; exact ih (fun k h1 h2 => h k h1 (by omega))

theorem after_is (a : Int) (e : Nat) (h : (e : Int) ≤ a) : ∃ n : Nat, afterI a e = n ∧ e < n ∧ (n : Int) ≤ a + 1 ∧ keptL a n = keptL a (e + 1) := by
  have h1 : (e : Int) + 1 ≤ afterI a e := by unfold afterI; omega
  have h2 : afterI a e ≤ a + 1 := by unfold afterI; omega
  refine ⟨(afterI a e).toNat, by omega, by omega, by omega, ?_⟩
  obtain ⟨d, hd⟩ : ∃ d, (afterI a e).toNat = (e + 1) + d := ⟨(afterI a e).toNat - (e + 1), by omega⟩
  rw [hd]
  refine keptL_skip a (e + 1) d fun k hk1 hk2 => ?_
  have hk3 : (k : Int) < afterI a e := by omega
  unfold afterI at hk3
  simp [keepsB]; omega

theorem Try.info3 : (Try.prog.info? 3).map (fun i => (i.zero, i.size, i.bytes)) = some (some (.int .i64 0), 1, 8) := by kernel_rfl

set_option maxHeartbeats 1000000 in
theorem kept_any (a : Int) (h0 : 0 ≤ a) (h1 : a ≤ 1048576) (w : World) :
    Calls Try.prog 24 #[.int .i64 a] w fun e w' => ∃ v, e = .returned v ∧ Sl w' v ((keptL a (a + 1).toNat).map (Value.int .i64)) ∧ Below w.heap.size w w' := by
  obtain ⟨i0, hi, hz0, hz1, hz2⟩ := info_parts Try.info3
  go_enter Try.func24, Try.ntmps24
  go_wp2
  go_loopw [3, 4] (fun v i wr => ∃ e : Nat, (e : Int) ≤ a + 1 ∧ i = .int .i64 e ∧ wr.ownsRow w.heap.size 3 1 v (keptL a e).length ((keptL a e).map (Value.int .i64)) ∧ Below w.heap.size w wr) (fun _ i _ => (a + 1 - intOf i).toNat)
  case atStart => exact ⟨0, by omega, rfl, World.ownsRow_nil _ _ _ _, Below.refl _ _⟩
  case round =>
    obtain ⟨e, he, rfl, hown, hbr⟩ := hrel
    have hs := hbr.size
    have hlen := keptL_len a e
    by_cases hlt : (e : Int) ≤ a
    · obtain ⟨n, hn1, hn2, hn3, hn4⟩ := after_is a e hlt
      have HN1 := Lib.hid hn1
      have HN4 := Lib.hid hn4
      clear hn1 hn4
      by_cases hkk : keepsB a e = true
      · have HK := Lib.hid hkk
        clear hkk
        have hm : (keptL a e).length + 1 ≤ maxLen := by unfold maxLen; omega
        have HM := Lib.hid hm
        clear hm
        go_wp2_with (first | (go_at_call 29; refine (keeps_true a _ (by omega) (by omega) (by omega) (by omega) HK.out _).mono ?_; rintro e w1 ⟨rfl, hb1⟩) | (at_builtin; refine wpList_append_own _ rfl _ _ 31 rfl w.heap.size 3 i0 (.int .i64 0) 1 8 Try.underlying31 hi hz0 hz1 hz2 rfl (by decide) _ _ _ rfl ((ownsRow_below hown hb1 (Nat.le_refl _)).alloc _) ⟨w1.heap.size, 0, none⟩ 1 1 [.int .i64 e] rfl rfl ?c1 ?c2 HM.out ?c4 ?c5 ?_))
        case c1 => exact cell_one_new _ _ _
        case c2 => simp [Value.oneCell']
        case c4 => omega
        case c5 => simp; have := hb1.size; omega
        intro v' w2 hown2 hg2 _
        have hb2 := below_append (hbr.trans (hb1.mono hs)) (ownsRow_below hown hb1 (Nat.le_refl _)) (Nat.le_refl _) (by have := hb1.size; omega) hg2
        clear hg2
        go_wp2_with (go_at_call 38; refine (after_any _ _ (by omega) (by omega) (by omega) _).mono ?_; rintro e w3 ⟨rfl, rfl⟩)
        go_roundw
        case rel =>
          refine ⟨n, hn3, by rw [HN1.out], ?_, hb2⟩
          rw [HN4.out, keptL_yes a e HK.out]
          simpa using hown2
        case measure => rw [HN1.out]; simp [intOf]; omega
      · have HK := Lib.hid hkk
        clear hkk
        go_wp2_with (first | (go_at_call 29; refine (keeps_false a _ (by omega) (by omega) (by omega) (by omega) (by simpa using HK.out) _).mono ?_; rintro e w1 ⟨rfl, hb1⟩) | (go_at_call 38; refine (after_any _ _ (by omega) (by omega) (by omega) _).mono ?_; rintro e w3 ⟨rfl, rfl⟩))
        go_roundw
        case rel =>
          refine ⟨n, hn3, by rw [HN1.out], ?_, hbr.trans (hb1.mono hs)⟩
          rw [HN4.out, keptL_no a e (by simpa using HK.out)]
          exact ownsRow_below hown hb1 (Nat.le_refl _)
        case measure => rw [HN1.out]; simp [intOf]; omega
    · go_wp2
      go_ret
      refine ⟨_, rfl, ?_, hbr⟩
      obtain rfl : e = (a + 1).toNat := by omega
      exact Sl.of_owns hown

theorem kept_none (a : Int) (h : a < 0 ∨ 1048576 < a) (w : World) : Calls Try.prog 24 #[.int .i64 a] w fun e w' => e = .returned (.slice none 0 0) ∧ w = w' := by
  by_cases h0 : a < 0
  · go_enter Try.func24, Try.ntmps24
    go_wp2
    go_ret
    exact ⟨rfl, rfl⟩
  · have h1 : 1048576 < a := by omega
    go_enter Try.func24, Try.ntmps24
    go_wp2
    go_ret
    exact ⟨rfl, rfl⟩

set_option maxHeartbeats 1000000 in
theorem refKept_any (a : Int) (h0 : 0 ≤ a) (h1 : a ≤ 1048576) (w : World) :
    Calls Try.prog 25 #[.int .i64 a] w fun e w' => ∃ v, e = .returned v ∧ Sl w' v ((keptL a (a + 1).toNat).map (Value.int .i64)) ∧ Below w.heap.size w w' := by
  obtain ⟨i0, hi, hz0, hz1, hz2⟩ := info_parts Try.info3
  go_enter Try.func25, Try.ntmps25
  go_wp2
  go_loopw [3, 4] (fun v i wr => ∃ e : Nat, (e : Int) ≤ a + 1 ∧ i = .int .i64 e ∧ wr.ownsRow w.heap.size 3 1 v (keptL a e).length ((keptL a e).map (Value.int .i64)) ∧ Below w.heap.size w wr) (fun _ i _ => (a + 1 - intOf i).toNat)
  case atStart => exact ⟨0, by omega, rfl, World.ownsRow_nil _ _ _ _, Below.refl _ _⟩
  case round =>
    obtain ⟨e, he, rfl, hown, hbr⟩ := hrel
    have hs := hbr.size
    have hlen := keptL_len a e
    by_cases hlt : (e : Int) ≤ a
    · by_cases hkk : keepsB a e = true
      · have HK := Lib.hid hkk
        clear hkk
        have hm : (keptL a e).length + 1 ≤ maxLen := by unfold maxLen; omega
        have HM := Lib.hid hm
        clear hm
        go_wp2_with (first | (go_at_call 30; refine (refKeeps_true a _ (by omega) (by omega) (by omega) (by omega) HK.out _).mono ?_; rintro e w1 ⟨rfl, rfl⟩) | (at_builtin; refine wpList_append_own _ rfl _ _ 31 rfl w.heap.size 3 i0 (.int .i64 0) 1 8 Try.underlying31 hi hz0 hz1 hz2 rfl (by decide) _ _ _ rfl (hown.alloc _) ⟨wr.heap.size, 0, none⟩ 1 1 [.int .i64 e] rfl rfl ?c1 ?c2 HM.out ?c4 ?c5 ?_))
        case c1 => exact cell_one_new _ _ _
        case c2 => simp [Value.oneCell']
        case c4 => omega
        case c5 => simp; omega
        intro v' w2 hown2 hg2 _
        have hb2 := below_append hbr hown (Nat.le_refl _) hs hg2
        clear hg2
        go_wp2
        go_roundw
        case rel =>
          refine ⟨e + 1, by omega, by go_num, ?_, hb2⟩
          rw [keptL_yes a e HK.out]
          simpa using hown2
        case measure => simp [intOf]; omega
      · have HK := Lib.hid hkk
        clear hkk
        go_wp2_with (go_at_call 30; refine (refKeeps_false a _ (by omega) (by omega) (by omega) (by omega) (by simpa using HK.out) _).mono ?_; rintro e w1 ⟨rfl, rfl⟩)
        go_roundw
        case rel =>
          refine ⟨e + 1, by omega, by go_num, ?_, hbr⟩
          rw [keptL_no a e (by simpa using HK.out)]
          exact hown
        case measure => simp [intOf]; omega
    · go_wp2
      go_ret
      refine ⟨_, rfl, ?_, hbr⟩
      obtain rfl : e = (a + 1).toNat := by omega
      exact Sl.of_owns hown

theorem refKept_none (a : Int) (h : a < 0 ∨ 1048576 < a) (w : World) : Calls Try.prog 25 #[.int .i64 a] w fun e w' => e = .returned (.slice none 0 0) ∧ w = w' := by
  by_cases h0 : a < 0
  · go_enter Try.func25, Try.ntmps25
    go_wp2
    refine wp_loop_rounds 1 ?_
    rw [rounds_succ]
    go_wp2
    go_ret
    exact ⟨rfl, rfl⟩
  · have h1 : 1048576 < a := by omega
    go_enter Try.func25, Try.ntmps25
    go_wp2
    go_ret
    exact ⟨rfl, rfl⟩

end Go.Proofs.Ytmmkbahgeffmpaa
