/- Trees of signing keys: what may be, the hash of two. -/
import Derived.Test.YtililoojjfcfgaaDoorMtsP
import Derived.Test.YtililoojjfcfgaaDoorWotsN
namespace Go.Proofs.YtililoojjfcfgaaDoor
open Go.RowKit
set_option linter.unusedVariables false

def mcanB (size h : Int) : Bool := decide (1 ≤ size ∧ size ≤ 32 ∧ 0 ≤ h ∧ h ≤ 8)

theorem mcan_any (size h : Int) (w : World) :
    Calls Tryd.prog 68 #[.int .i64 size, .int .i64 h] w fun e w' => e = .returned (.bool (mcanB size h)) ∧ w = w' := by
  obtain ⟨b, hb⟩ : ∃ b, b = mcanB size h := ⟨_, rfl⟩
  rw [← hb]
  have HB := Lib.hid hb
  clear hb
  by_cases h0 : 1 ≤ size
  · by_cases h1 : size ≤ 32
    · by_cases h2 : 0 ≤ h
      · by_cases h3 : h ≤ 8
        all_goals
          go_enter Tryd.func68, Tryd.ntmps68
          go_wp2
          go_ret
          exact ⟨ret_bool (by rw [HB.out]; unfold mcanB; first | exact (decide_eq_true (by omega)).symm | exact (decide_eq_false (by omega)).symm), rfl⟩
      · go_enter Tryd.func68, Tryd.ntmps68
        go_wp2
        go_ret
        exact ⟨ret_bool (by rw [HB.out]; unfold mcanB; first | exact (decide_eq_true (by omega)).symm | exact (decide_eq_false (by omega)).symm), rfl⟩
    · go_enter Tryd.func68, Tryd.ntmps68
      go_wp2
      go_ret
      exact ⟨ret_bool (by rw [HB.out]; unfold mcanB; first | exact (decide_eq_true (by omega)).symm | exact (decide_eq_false (by omega)).symm), rfl⟩
  · go_enter Tryd.func68, Tryd.ntmps68
    go_wp2
    go_ret
    exact ⟨ret_bool (by rw [HB.out]; unfold mcanB; first | exact (decide_eq_true (by omega)).symm | exact (decide_eq_false (by omega)).symm), rfl⟩

set_option maxHeartbeats 1000000 in
theorem mpair_any (size l p : Int) (v1 v2 : Value) (b1 b2 : List Int) (w : World) (hl0 : -9223372036854775808 ≤ l) (hl1 : l ≤ 9223372036854775807) (hp0 : -9223372036854775808 ≤ p) (hp1 : p ≤ 9223372036854775807) (hB1 : IsB b1) (hB2 : IsB b2) (h1 : Sl w v1 (b1.map (Value.int .u8))) (h2 : Sl w v2 (b2.map (Value.int .u8))) (ht : Tabs w) :
    Calls Tryd.prog 95 #[.int .i64 size, .int .i64 l, .int .i64 p, v1, v2] w fun e w' => ∃ x, e = .returned x ∧ Sl w' x ((pairT size l p b1 b2).map (Value.int .u8)) ∧ Below w.heap.size w w' := by
  obtain ⟨va, vn, vc, rfl⟩ := h1.val
  obtain ⟨ua, un, uc, rfl⟩ := h2.val
  go_enter Tryd.func95, Tryd.ntmps95
  go_wp2_with fail
  refine (number_any l w hl0 hl1).mono ?_
  rintro e w2 ⟨n1, rfl, hn1, hb2⟩
  have h1 := h1.below hb2 (Nat.le_refl _)
  have h2 := h2.below hb2 (Nat.le_refl _)
  have ht := ht.below hb2
  go_wp2_with fail
  refine (number_any p w2 hp0 hp1).mono ?_
  rintro e w3 ⟨n2, rfl, hn2, hb3⟩
  have h1 := h1.below hb3 (Nat.le_refl _)
  have h2 := h2.below hb3 (Nat.le_refl _)
  have hn1 := hn1.below hb3 (Nat.le_refl _)
  have ht := ht.below hb3
  have hb3 := below_trans2 hb2 hb3
  clear hb2
  obtain ⟨a1, l1, c1, rfl⟩ := hn1.val
  obtain ⟨a2, l2, c2, rfl⟩ := hn2.val
  have hL := Sls.litA _ 22 (show SlAll w3 [.slice a1 l1 c1, .slice a2 l2 c2, .slice va vn vc, .slice ua un uc] [numI l, numI p, b1, b2] from ⟨hn1, hn2, h1, h2, trivial⟩) (by simp [maxLen])
  have hbA := hb3.alloc hb3.size (.cells #[.slice a1 l1 c1, .slice a2 l2 c2, .slice va vn vc, .slice ua un uc] 22)
  have htA := ht.below ((Below.refl _ _).alloc (Nat.le_refl _) (.cells #[.slice a1 l1 c1, .slice a2 l2 c2, .slice va vn vc, .slice ua un uc] 22))
  have HH := Lib.hid (hash_any size 9 _ _ _ (by simp) (by decide) (by decide) hL (fun p hp => by
    simp only [List.mem_cons, List.not_mem_nil, or_false] at hp
    rcases hp with rfl | rfl | rfl | rfl
    · exact numI_isB _
    · exact numI_isB _
    · exact hB1
    · exact hB2) htA)
  rw [show hashT size 9 [numI l, numI p, b1, b2] = pairT size l p b1 b2 from rfl] at HH
  clear hL htA ht h1 h2 hn1 hn2 hb3
  go_wp2_with fail
  refine HH.out.mono ?_
  rintro e w5 ⟨y, rfl, hy, hb5⟩
  have hbr := hbA.trans (hb5.mono hbA.size)
  go_wp2
  go_ret
  exact ⟨_, rfl, hy, hbr⟩

set_option maxHeartbeats 1000000 in
theorem refMpair_any (size l p : Int) (v1 v2 : Value) (b1 b2 : List Int) (w : World) (hl0 : -9223372036854775808 ≤ l) (hl1 : l ≤ 9223372036854775807) (hp0 : -9223372036854775808 ≤ p) (hp1 : p ≤ 9223372036854775807) (hB1 : IsB b1) (hB2 : IsB b2) (hn1 : b1.length ≤ 140737488351232) (hn2 : b2.length ≤ 140737488351232) (h1 : Sl w v1 (b1.map (Value.int .u8))) (h2 : Sl w v2 (b2.map (Value.int .u8))) :
    Calls Tryd.prog 72 #[.int .i64 size, .int .i64 l, .int .i64 p, v1, v2] w fun e w' => ∃ x, e = .returned x ∧ Sl w' x ((pairT size l p b1 b2).map (Value.int .u8)) ∧ Below w.heap.size w w' := by
  have ht : True := trivial
  obtain ⟨va, vn, vc, rfl⟩ := h1.val
  obtain ⟨ua, un, uc, rfl⟩ := h2.val
  go_enter Tryd.func72, Tryd.ntmps72
  go_wp2_with fail
  refine (refNumber_any l w hl0 hl1).mono ?_
  rintro e w2 ⟨n1, rfl, hn1, hb2⟩
  have h1 := h1.below hb2 (Nat.le_refl _)
  have h2 := h2.below hb2 (Nat.le_refl _)
  go_wp2_with fail
  refine (refNumber_any p w2 hp0 hp1).mono ?_
  rintro e w3 ⟨n2, rfl, hn2, hb3⟩
  have h1 := h1.below hb3 (Nat.le_refl _)
  have h2 := h2.below hb3 (Nat.le_refl _)
  have hn1 := hn1.below hb3 (Nat.le_refl _)
  have hb3 := below_trans2 hb2 hb3
  clear hb2
  obtain ⟨a1, l1, c1, rfl⟩ := hn1.val
  obtain ⟨a2, l2, c2, rfl⟩ := hn2.val
  have hL := Sls.litA _ 22 (show SlAll w3 [.slice a1 l1 c1, .slice a2 l2 c2, .slice va vn vc, .slice ua un uc] [numI l, numI p, b1, b2] from ⟨hn1, hn2, h1, h2, trivial⟩) (by simp [maxLen])
  have hbA := hb3.alloc hb3.size (.cells #[.slice a1 l1 c1, .slice a2 l2 c2, .slice va vn vc, .slice ua un uc] 22)
  have HH := Lib.hid (refHash_any size 9 _ _ _ (by simp) (by decide) (by decide) hL (fun p hp => by
    simp only [List.mem_cons, List.not_mem_nil, or_false] at hp
    rcases hp with rfl | rfl | rfl | rfl
    · exact numI_isB _
    · exact numI_isB _
    · exact hB1
    · exact hB2))
  rw [show hashT size 9 [numI l, numI p, b1, b2] = pairT size l p b1 b2 from rfl] at HH
  clear hL ht h1 h2 hn1 hn2 hb3
  go_wp2_with fail
  refine HH.out.mono ?_
  rintro e w5 ⟨y, rfl, hy, hb5⟩
  have hbr := hbA.trans (hb5.mono hbA.size)
  go_wp2
  go_ret
  exact ⟨_, rfl, hy, hbr⟩

end Go.Proofs.YtililoojjfcfgaaDoor
