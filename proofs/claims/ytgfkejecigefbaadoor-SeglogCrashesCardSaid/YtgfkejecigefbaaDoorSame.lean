
/- The walk of SameTexts: whether two lists of texts are the same. -/
import Derived.Test.YtgfkejecigefbaaDoorTextA
namespace Go.Proofs.YtgfkejecigefbaaDoor
open Go.RowKit
set_option linter.unusedVariables false

theorem texts_differ {ps qs : List (List Int)} {k : Nat} (h : ps.getD k [] ≠ qs.getD k []) : decide (ps = qs) = false := by
  simp only [decide_eq_false_iff_not]
  rintro rfl
  exact h rfl
theorem texts_same {ps qs : List (List Int)} (hl : ps.length = qs.length) (h : ∀ j, j < ps.length → ps.getD j [] = qs.getD j []) : decide (ps = qs) = true := by
  simp only [decide_eq_true_eq]
  refine List.ext_getElem hl fun j h1 h2 => ?_
  have := h j h1
  rwa [List.getD_eq_getElem?_getD, List.getD_eq_getElem?_getD, List.getElem?_eq_getElem h1, List.getElem?_eq_getElem h2] at this
theorem isB_at {ps : List (List Int)} (h : ∀ p ∈ ps, IsB p) {k : Nat} (hk : k < ps.length) : IsB (ps.getD k []) := h _ (by rw [List.getD_eq_getElem?_getD, List.getElem?_eq_getElem hk]; exact List.getElem_mem hk)

set_option maxHeartbeats 1000000 in
theorem equalFunc_any (v1 v2 : Value) (ps qs : List (List Int)) (w : World) (h1 : Sls w v1 ps) (h2 : Sls w v2 qs) (hp : ∀ p ∈ ps, IsB p) (hq : ∀ p ∈ qs, IsB p) :
    Calls Tryd.prog 45 #[v1, v2, .func (.func 46) #[] #[]] w fun e w' => e = .returned (.bool (decide (ps = qs))) ∧ w = w' := by
  obtain ⟨a1, c1, rfl, hc1, hm1⟩ := h1.shape
  obtain ⟨a2, c2, rfl, hc2, hm2⟩ := h2.shape
  by_cases hl : ps.length = qs.length
  · have HL := Lib.hid hl
    rw [← hl] at h2 hc2
    rw [← hl]
    clear hl
    go_enter Tryd.func45, Tryd.ntmps45
    go_wp2
    go_loopw [17] (fun i wr => ∃ k : Nat, k ≤ ps.length ∧ i = .int .i64 k ∧ Hid (∀ j, j < k → ps.getD j [] = qs.getD j []) ∧ w = wr) (fun i _ => ps.length - (intOf i).toNat)
    case atStart => exact ⟨0, by omega, rfl, fun j hj => absurd hj (by omega), rfl⟩
    case round =>
      obtain ⟨k, hk, rfl, hall, rfl⟩ := hrel
      by_cases hlt : k < ps.length
      · obtain ⟨b1, o1, rfl, hb1, u1, hu1, hs1⟩ := h1.at hlt
        obtain ⟨b2, o2, rfl, hb2, u2, hu2, hs2⟩ := h2.at (k := k) (by rw [← HL.out]; exact hlt)
        have hkI : (k : Int) < (ps.length : Int) := by omega
        have he := Lib.hid (bytesEq_any u1 u2 _ _ w hs1 hs2 (isB_at hp hlt) (isB_at hq (k := k) (by rw [← HL.out]; exact hlt)))
        clear hs1 hs2
        go_wp2_with fail
        refine he.out.mono ?_
        by_cases hxy : ps.getD k [] = qs.getD k []
        · rw [show decide (ps.getD k [] = qs.getD k []) = true by simpa using hxy]
          rintro e w1 ⟨rfl, rfl⟩
          have HX := Lib.hid hxy
          clear hxy hu1 hu2 he
          go_wp2
          go_roundw
          case rel =>
            refine ⟨k + 1, by omega, by go_num, fun j hj => ?_, by first | rfl | trivial⟩
            rcases Nat.lt_or_ge j k with h | h
            · exact hall.out j h
            · obtain rfl : j = k := by omega
              exact HX.out
          case measure => simp [intOf]; omega
        · rw [show decide (ps.getD k [] = qs.getD k []) = false by simpa using hxy]
          rintro e w1 ⟨rfl, rfl⟩
          have HD := Lib.hid (texts_differ hxy)
          clear hxy hu1 hu2 he
          go_wp2
          go_ret
          exact ⟨ret_bool HD.out.symm, rfl⟩
      · have hkI : ¬ (k : Int) < (ps.length : Int) := by omega
        have HD := Lib.hid (texts_same HL.out fun j hj => hall.out j (by omega))
        go_wp2
        go_ret
        exact ⟨ret_bool HD.out.symm, rfl⟩
  · have hI : ¬ (ps.length : Int) = (qs.length : Int) := by omega
    have HD := Lib.hid (show decide (ps = qs) = false by simp only [decide_eq_false_iff_not]; rintro rfl; exact hl rfl)
    clear hl
    go_enter Tryd.func45, Tryd.ntmps45
    go_wp2
    go_ret
    exact ⟨ret_bool HD.out.symm, rfl⟩

theorem sameTexts_any (v1 v2 : Value) (ps qs : List (List Int)) (w : World) (h1 : Sls w v1 ps) (h2 : Sls w v2 qs) (hp : ∀ p ∈ ps, IsB p) (hq : ∀ p ∈ qs, IsB p) :
    Calls Tryd.prog 21 #[v1, v2] w fun e w' => e = .returned (.bool (decide (ps = qs))) ∧ w = w' := by
  have he := Lib.hid (equalFunc_any v1 v2 ps qs w h1 h2 hp hq)
  go_enter Tryd.func21, Tryd.ntmps21
  go_wp2_with fail
  refine he.out.mono ?_
  rintro e w1 ⟨rfl, rfl⟩
  go_wp2
  go_ret
  exact ⟨rfl, rfl⟩

end Go.Proofs.YtgfkejecigefbaaDoor
