
/- The walks of the laws ShaBorders and ShaCuts. -/
import Derived.Test.YtgfkejecigefbaaDoorShaJ
namespace Go.Proofs.YtgfkejecigefbaaDoor
open Go.RowKit
set_option linter.unusedVariables false


def cutI (a : Int) (bs : List Int) : List Int := (sumI bs).take (min (max a 0) 32).toNat
theorem cutI_isB (a : Int) (bs : List Int) : IsB (cutI a bs) := fun x hx => sumI_isB bs x (List.mem_of_mem_take hx)
theorem cutI_len (a : Int) (bs : List Int) : (cutI a bs).length = (min (max a 0) 32).toNat := by unfold cutI; rw [List.length_take, sumI_len]; omega

set_option maxHeartbeats 400000 in
theorem shaCut_any (a : Int) (v : Value) (bs : List Int) (w : World) (hn : bs.length ≤ 281474976710656) (hB : ∀ j, 0 ≤ bs.getD j 0 ∧ bs.getD j 0 ≤ 255) (hs : Sl w v (bs.map (Value.int .u8))) (ht : Tabs w) :
    Calls Tryd.prog 94 #[.int .i64 a, v] w fun e w' => ∃ v', e = .returned v' ∧ Sl w' v' ((cutI a bs).map (Value.int .u8)) ∧ Below w.heap.size w w' := by
  have hsum := Lib.hid (sum_any v bs w hn hB hs ht)
  clear hn
  obtain ⟨s, hsd⟩ : ∃ s : Nat, (s : Int) = min (max a 0) 32 := ⟨(min (max a 0) 32).toNat, by omega⟩
  have hs32 : s ≤ 32 := by omega
  have hst : (min (max a 0) 32).toNat = s := by omega
  have HST := Lib.hid hst
  clear hst
  rcases (show a < 0 ∨ (0 ≤ a ∧ a ≤ 32) ∨ 32 < a by omega) with h | ⟨h, h'⟩ | h
  · obtain rfl : s = 0 := by omega
    clear hsd
    go_enter Tryd.func94, Tryd.ntmps94
    go_wp2_with fail
    refine hsum.out.mono ?_
    rintro e w1 ⟨v1, rfl, hs1, hb1⟩
    obtain ⟨a1, c1, rfl, hc1, hm1⟩ := hs1.shape
    have ht1 := hs1.take3 0 0 (by omega) (by omega) (by omega)
    rw [← List.map_take, ← HST.out] at ht1
    rw [List.length_map, sumI_len] at *
    go_wp2
    go_ret
    exact ⟨_, rfl, by simpa [cutI, HST.out] using ht1, hb1⟩
  · obtain rfl : a = (s : Int) := by omega
    have hI : ¬ (s : Int) < 0 := by omega
    have hJ : ¬ 32 < (s : Int) := by omega
    clear hsd
    go_enter Tryd.func94, Tryd.ntmps94
    go_wp2_with fail
    refine hsum.out.mono ?_
    rintro e w1 ⟨v1, rfl, hs1, hb1⟩
    obtain ⟨a1, c1, rfl, hc1, hm1⟩ := hs1.shape
    rw [List.length_map, sumI_len] at *
    have hcI : (s : Int) ≤ (c1 : Int) := by omega
    have ht1 := hs1.take3 s s (by rw [List.length_map, sumI_len]; omega) (by omega) (by omega)
    rw [← List.map_take] at ht1
    go_wp2
    go_ret
    exact ⟨_, rfl, by unfold cutI; rw [HST.out]; exact ht1, hb1⟩
  · obtain rfl : s = 32 := by omega
    have hI : ¬ a < 0 := by omega
    clear hsd
    go_enter Tryd.func94, Tryd.ntmps94
    go_wp2_with fail
    refine hsum.out.mono ?_
    rintro e w1 ⟨v1, rfl, hs1, hb1⟩
    obtain ⟨a1, c1, rfl, hc1, hm1⟩ := hs1.shape
    rw [List.length_map, sumI_len] at *
    have hcI : (32 : Int) ≤ (c1 : Int) := by omega
    have ht1 := hs1.take3 32 32 (by rw [List.length_map, sumI_len]; omega) (by omega) (by omega)
    rw [← List.map_take] at ht1
    go_wp2
    go_ret
    exact ⟨_, rfl, by unfold cutI; rw [HST.out]; exact ht1, hb1⟩

end Go.Proofs.YtgfkejecigefbaaDoor
