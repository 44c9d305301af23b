
/- The walk of the law ShaCuts. -/
import Derived.Test.YtgfkejecigefbaaDoorShaK
namespace Go.Proofs.YtgfkejecigefbaaDoor
open Go.RowKit
set_option linter.unusedVariables false

set_option maxHeartbeats 400000 in
theorem refCut_any (a : Int) (v : Value) (bs : List Int) (w : World) (hn : bs.length ≤ 140737488351232) (hB : ∀ j, 0 ≤ bs.getD j 0 ∧ bs.getD j 0 ≤ 255) (hs : Sl w v (bs.map (Value.int .u8))) :
    Calls Tryd.prog 104 #[.int .i64 a, v] w fun e w' => ∃ v', e = .returned v' ∧ Sl w' v' ((cutI a bs).map (Value.int .u8)) ∧ Below w.heap.size w w' := by
  have hsum := Lib.hid (refSum_any v bs w hn hB hs)
  clear hn
  obtain ⟨s, hsd⟩ : ∃ s : Nat, (s : Int) = min (max a 0) 32 := ⟨(min (max a 0) 32).toNat, by omega⟩
  have hs32 : s ≤ 32 := by omega
  have hst : (min (max a 0) 32).toNat = s := by omega
  have HST := Lib.hid hst
  clear hst
  rcases (show a ≤ 0 ∨ (0 < a ∧ a ≤ 32) ∨ 32 < a by omega) with h | ⟨h, h'⟩ | h
  · obtain rfl : s = 0 := by omega
    have hI : ¬ 32 < a := by omega
    have hJ : ¬ 0 < a := by omega
    clear hsd
    go_enter Tryd.func104, Tryd.ntmps104
    go_wp2_with fail
    refine hsum.out.mono ?_
    rintro e w1 ⟨v1, rfl, hs1, hb1⟩
    obtain ⟨a1, c1, rfl, hc1, hm1⟩ := hs1.shape
    have ht1 := hs1.take3 0 c1 (by omega) (by omega) (by omega)
    rw [← List.map_take, ← HST.out] at ht1
    rw [List.length_map, sumI_len] at *
    go_wp2
    go_ret
    exact ⟨_, rfl, by simpa [cutI, HST.out] using ht1, hb1⟩
  · obtain rfl : a = (s : Int) := by omega
    have hI : ¬ 32 < (s : Int) := by omega
    have hJ : (0 : Int) < (s : Int) := by omega
    clear hsd
    go_enter Tryd.func104, Tryd.ntmps104
    go_wp2_with fail
    refine hsum.out.mono ?_
    rintro e w1 ⟨v1, rfl, hs1, hb1⟩
    obtain ⟨a1, c1, rfl, hc1, hm1⟩ := hs1.shape
    rw [List.length_map, sumI_len] at *
    have hcI : (s : Int) ≤ (c1 : Int) := by omega
    have ht1 := hs1.take3 s c1 (by rw [List.length_map, sumI_len]; omega) (by omega) (by omega)
    rw [← List.map_take] at ht1
    go_wp2
    go_ret
    exact ⟨_, rfl, by unfold cutI; rw [HST.out]; exact ht1, hb1⟩
  · obtain rfl : s = 32 := by omega
    clear hsd
    go_enter Tryd.func104, Tryd.ntmps104
    go_wp2_with fail
    refine hsum.out.mono ?_
    rintro e w1 ⟨v1, rfl, hs1, hb1⟩
    obtain ⟨a1, c1, rfl, hc1, hm1⟩ := hs1.shape
    rw [List.length_map, sumI_len] at *
    have hcI : (32 : Int) ≤ (c1 : Int) := by omega
    have ht1 := hs1.take3 32 c1 (by rw [List.length_map, sumI_len]; omega) (by omega) (by omega)
    rw [← List.map_take] at ht1
    go_wp2
    go_ret
    exact ⟨_, rfl, by unfold cutI; rw [HST.out]; exact ht1, hb1⟩


end Go.Proofs.YtgfkejecigefbaaDoor
