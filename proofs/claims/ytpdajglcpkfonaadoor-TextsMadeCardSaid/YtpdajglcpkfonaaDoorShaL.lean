/- The walk of the law ShaCuts. -/
import Derived.Test.YtpdajglcpkfonaaDoorShaK
namespace Go.Proofs.YtpdajglcpkfonaaDoor
open Go.RowKit
set_option linter.unusedVariables false

set_option maxHeartbeats 400000 in
theorem refCut_any (a : Int) (v : Value) (bs : List Int) (w : World) (hn : bs.length ≤ 140737488351232) (hB : ∀ j, 0 ≤ bs.getD j 0 ∧ bs.getD j 0 ≤ 255) (hs : Sl w v (bs.map (Value.int .u8))) :
    Calls Tryd.prog 17 #[.int .i64 a, v] w fun e w' => ∃ v', e = .returned v' ∧ Sl w' v' ((cutI a bs).map (Value.int .u8)) ∧ Below w.heap.size w w' := by
  have hsum := Lib.hid (refSum_any v bs w hn hB hs)
  clear hn
  obtain ⟨s, hsd⟩ : ∃ s : Nat, (s : Int) = min (max a 0) 32 := ⟨(min (max a 0) 32).toNat, by omega⟩
  have hs32 : s ≤ 32 := by omega
  have hst : (min (max a 0) 32).toNat = s := by omega
  have HST := Lib.hid hst
  clear hst
  rcases (show a ≤ 0 ∨ (0 < a ∧ a ≤ 32) ∨ 32 < a by omega) with h | ⟨h, h'⟩ | h
  · obtain rfl : s = 0 := by omega
    have hI : ¬ 32 < a := by omega
    have hJ : ¬ 0 < a := by omega
    clear hsd
    go_enter Tryd.func17, Tryd.ntmps17
    go_wp2_with fail
    refine hsum.out.mono ?_
    rintro e w1 ⟨v1, rfl, hs1, hb1⟩
    obtain ⟨a1, c1, rfl, hc1, hm1⟩ := hs1.shape
    have ht1 := hs1.take3 0 c1 (by omega) (by omega) (by omega)
    rw [← List.map_take, ← HST.out] at ht1
    rw [List.length_map, sumI_len] at *
    go_wp2
    go_ret
    exact ⟨_, rfl, by simpa [cutI, HST.out] using ht1, hb1⟩
  · obtain rfl : a = (s : Int) := by omega
    have hI : ¬ 32 < (s : Int) := by omega
    have hJ : (0 : Int) < (s : Int) := by omega
    clear hsd
    go_enter Tryd.func17, Tryd.ntmps17
    go_wp2_with fail
    refine hsum.out.mono ?_
    rintro e w1 ⟨v1, rfl, hs1, hb1⟩
    obtain ⟨a1, c1, rfl, hc1, hm1⟩ := hs1.shape
    rw [List.length_map, sumI_len] at *
    have hcI : (s : Int) ≤ (c1 : Int) := by omega
    have ht1 := hs1.take3 s c1 (by rw [List.length_map, sumI_len]; omega) (by omega) (by omega)
    rw [← List.map_take] at ht1
    go_wp2
    go_ret
    exact ⟨_, rfl, by unfold cutI; rw [HST.out]; exact ht1, hb1⟩
  · obtain rfl : s = 32 := by omega
    clear hsd
    go_enter Tryd.func17, Tryd.ntmps17
    go_wp2_with fail
    refine hsum.out.mono ?_
    rintro e w1 ⟨v1, rfl, hs1, hb1⟩
    obtain ⟨a1, c1, rfl, hc1, hm1⟩ := hs1.shape
    rw [List.length_map, sumI_len] at *
    have hcI : (32 : Int) ≤ (c1 : Int) := by omega
    have ht1 := hs1.take3 32 c1 (by rw [List.length_map, sumI_len]; omega) (by omega) (by omega)
    rw [← List.map_take] at ht1
    go_wp2
    go_ret
    exact ⟨_, rfl, by unfold cutI; rw [HST.out]; exact ht1, hb1⟩

set_option maxHeartbeats 400000 in
theorem shaCuts_walk (v : Value) (bs : List Int) (a b : Int) (w : World) (ht : Tabs w) (hB : IsB bs) (hs : Sl w v (bs.map (Value.int .u8))) (hn : bs.length ≤ 140737488351232) (ha : -9223372036854775808 ≤ a) (ha' : a ≤ 9223372036854775807) (hb : -9223372036854775808 ≤ b) (hb' : b ≤ 9223372036854775807) :
    Calls Tryd.prog 5 #[v, .int .i64 a, .int .i64 b] w fun e w' => e = .returned (.bool true) ∧ Below w.heap.size w w' := by
  have h1 := u64_rem b 40 (by omega) (by omega)
  generalize hL : wrap64 ((IntKind.u64.wrap b).tmod 40) = L at h1
  obtain ⟨n, rfl⟩ : ∃ n : Nat, L = n := ⟨L.toNat, by omega⟩
  have hcl := cutI_len (n : Int) bs
  obtain ⟨m, hm⟩ : ∃ m : Nat, m = (min (max (n : Int) 0) 32).toNat := ⟨_, rfl⟩
  rw [← hm] at hcl
  have hmin : (if 32 < (n : Int) then 32 else (n : Int)) = (m : Int) := by split <;> omega
  have hmn : (n < 32 ∧ m = n) ∨ (32 ≤ n ∧ m = 32) := by omega
  have HN := Lib.hid hn
  clear hm hn
  go_enter Tryd.func5, Tryd.ntmps5
  go_wp2_with fail
  refine (shaCut_any _ v bs w (by have := HN.out; omega) hB.at hs ht).mono ?_
  rintro e w1 ⟨v1, rfl, hs1, hb1⟩
  have hs := hs.below hb1 (Nat.le_refl _)
  have ht1 := ht.below hb1
  go_wp2_with fail
  refine (shaCut_any _ v bs w1 (by have := HN.out; omega) hB.at hs ht1).mono ?_
  rintro e w2 ⟨v2, rfl, hs2, hb2⟩
  have hs := hs.below hb2 (Nat.le_refl _)
  have hs1 := hs1.below hb2 (Nat.le_refl _)
  have ht2 := ht1.below hb2
  have hb12 := below_trans2 hb1 hb2
  clear hb1 hb2 ht1
  go_wp2_with fail
  refine (refCut_any _ v bs w2 HN.out hB.at hs).mono ?_
  rintro e w3 ⟨v3, rfl, hs3, hb3⟩
  have hs := hs.below hb3 (Nat.le_refl _)
  have hs1 := hs1.below hb3 (Nat.le_refl _)
  have hs2 := hs2.below hb3 (Nat.le_refl _)
  have ht3 := ht2.below hb3
  have hb13 := below_trans2 hb12 hb3
  clear hb12 hb3 ht2
  go_wp2_with fail
  refine (bytesEq_same _ _ (cutI a bs) w3 hs2 hs3 (cutI_isB a bs)).mono ?_
  rintro e w4 ⟨rfl, rfl⟩
  obtain ⟨a1, c1, rfl, hc1, hm1⟩ := hs1.shape
  rw [List.length_map, hcl] at *
  clear hc1 hm1
  rcases hmn with ⟨hn1, rfl⟩ | ⟨hn1, rfl⟩
  all_goals
    have hnI := Int.ofNat_le.2 hn1
    go_wp2_with fail
    refine (sum_any v bs w3 (by have := HN.out; omega) hB.at hs ht3).mono ?_
    rintro e w5 ⟨v5, rfl, hs5, hb5⟩
    have hs1 := hs1.below hb5 (Nat.le_refl _)
    have ht5 := ht3.below hb5
    have hb15 := below_trans2 hb13 hb5
    clear hb5 hb13 ht3
    go_wp2_with fail
    refine (hasPrefix_any _ _ (sumI bs) (cutI _ bs) w5 hs5 hs1 (sumI_isB bs) (cutI_isB _ bs) (by unfold cutI; rw [List.length_take, List.take_eq_take_iff]; simp)).mono ?_
    rintro e w4 ⟨rfl, rfl⟩
    go_wp2_with fail
    refine (shaAwake_any _ ht5).mono ?_
    rintro e w6 ⟨rfl, hb6⟩
    have hb16 := below_trans2 hb15 hb6
    go_wp2
    go_ret
    exact ⟨rfl, hb16⟩

end Go.Proofs.YtpdajglcpkfonaaDoor
