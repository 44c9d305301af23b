
/- The walk of slices.Equal at []int: whether two lists of numbers are the same. -/
import Derived.Test.YtgfkejecigefbaaDoorRows
import Derived.Test.YtgfkejecigefbaaDoorLib
namespace Go.Proofs.YtgfkejecigefbaaDoor
open Go.RowKit

theorem differ_at {xs ys : List Int} {k : Nat} (h : xs.getD k 0 ≠ ys.getD k 0) : decide (xs = ys) = false := by
  simp only [decide_eq_false_iff_not]
  rintro rfl
  exact h rfl

theorem same_all {xs ys : List Int} (hl : xs.length = ys.length) (h : ∀ j, j < xs.length → xs.getD j 0 = ys.getD j 0) : decide (xs = ys) = true := by
  simp only [decide_eq_true_eq]
  refine List.ext_getElem hl fun j h1 h2 => ?_
  have := h j h1
  rwa [List.getD_eq_getElem?_getD, List.getD_eq_getElem?_getD, List.getElem?_eq_getElem h1, List.getElem?_eq_getElem h2] at this

set_option maxHeartbeats 1000000 in
theorem eqInts_any (v1 v2 : Value) (xs ys : List Int) (w : World) (h1 : Sl w v1 (xs.map (Value.int .i64))) (h2 : Sl w v2 (ys.map (Value.int .i64))) :
    Calls Tryd.prog 70 #[v1, v2] w fun e w' => e = .returned (.bool (decide (xs = ys))) ∧ Below w.heap.size w w' := by
  obtain ⟨a1, c1, rfl, hc1, hc1', _⟩ := id h1
  obtain ⟨a2, c2, rfl, hc2, hc2', _⟩ := id h2
  unfold maxLen at hc1' hc2'
  simp only [List.length_map] at *
  by_cases hl : xs.length = ys.length
  · have hlb : ((xs.length : Int) != ys.length) = false := by simp [hl]
    have HL := Lib.hid hl
    clear hl
    go_enter Tryd.func70, Tryd.ntmps70
    go_wp2
    go_loopw [13] (fun i wr => ∃ k : Nat, k ≤ xs.length ∧ i = .int .i64 k ∧ Hid (∀ j, j < k → xs.getD j 0 = ys.getD j 0) ∧ Below w.heap.size w wr) (fun i _ => xs.length - (intOf i).toNat)
    case atStart => exact ⟨0, by omega, rfl, fun j hj => absurd hj (by omega), Below.refl _ _⟩
    case round =>
      obtain ⟨k, hk, rfl, hall, hbr⟩ := hrel
      have hs := hbr.size
      by_cases hlt : k < xs.length
      · obtain ⟨b1, o1, rfl, hb1, hx⟩ := h1.ints hlt
        obtain ⟨b2, o2, rfl, hb2, hy⟩ := h2.ints (k := k) (by rw [← HL.out]; exact hlt)
        have hx' : wr.cell? ⟨b1, o1 + k, none⟩ = some (.int .i64 (xs.getD k 0)) := by rw [hbr.cell (p := ⟨b1, o1 + k, none⟩) hb1]; exact hx k hlt
        have hy' : wr.cell? ⟨b2, o2 + k, none⟩ = some (.int .i64 (ys.getD k 0)) := by rw [hbr.cell (p := ⟨b2, o2 + k, none⟩) hb2]; exact hy k (by rw [← HL.out]; exact hlt)
        have hlt2 : k < ys.length := by rw [← HL.out]; exact hlt
        clear hx hy
        generalize hX : xs.getD k 0 = X at hx'
        generalize hY : ys.getD k 0 = Y at hy'
        by_cases hxy : X = Y
        · have HX := Lib.hid hX
          have HY := Lib.hid hY
          clear hX hY
          subst hxy
          have hne : (X != X) = false := by simp
          go_wp2
          go_quiet (fail)
          go_wp2
          go_roundw
          case rel =>
            refine ⟨k + 1, by omega, by go_num, fun j hj => ?_, by first | exact hbr | exact below_drewN hbr _⟩
            rcases Nat.lt_or_ge j k with h | h
            · exact hall j h
            · obtain rfl : j = k := by omega
              rw [HX.out, HY.out]
          case measure => simp [intOf]; omega
        · have hne : (X != Y) = true := by simpa using hxy
          have HD := Lib.hid (show decide (xs = ys) = false from differ_at (k := k) (by rw [hX, hY]; exact hxy))
          clear hX hY hxy
          go_wp2
          go_quiet (fail)
          go_wp2
          go_ret
          exact ⟨ret_bool HD.out.symm, by first | exact hbr | exact below_drewN hbr _⟩
      · obtain rfl : k = xs.length := by omega
        go_wp2
        go_ret
        exact ⟨ret_bool (same_all HL.out hall).symm, hbr⟩
  · have hlb : ((xs.length : Int) != ys.length) = true := by simp; omega
    have HD := Lib.hid (show decide (xs = ys) = false by simp only [decide_eq_false_iff_not]; rintro rfl; exact hl rfl)
    clear hl
    go_enter Tryd.func70, Tryd.ntmps70
    go_wp2
    go_ret
    exact ⟨ret_bool HD.out.symm, Below.refl _ _⟩

end Go.Proofs.YtgfkejecigefbaaDoor
