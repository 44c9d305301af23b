/- The walks of what may be, of a chain's beginning, of how many chains there are; the program's and the reference's. -/
import Derived.Test.YtililoojjfcfgaaDoorChain
namespace Go.Proofs.YtililoojjfcfgaaDoor
open Go.RowKit
set_option linter.unusedVariables false

def canB (size : Int) (n : Nat) (idx : Int) : Bool := decide (1 ≤ size ∧ size ≤ 32 ∧ n ≤ 64 ∧ 0 ≤ idx ∧ idx < 256)
/-- A chain's beginning. -/
def secI (size : Int) (seed : List Int) (idx i : Int) : List Int := if canB size seed.length idx then hashT size 6 [seed, numI idx, numI i] else []

theorem secI_isB (size : Int) (seed : List Int) (idx i : Int) : IsB (secI size seed idx i) := by
  unfold secI; split
  · exact hashT_isB' _ _ _
  · intro x hx; cases hx
theorem secI_len (size : Int) (seed : List Int) (idx i : Int) : (secI size seed idx i).length ≤ 32 := by
  unfold secI; split
  · exact hashT_len _ _ _
  · simp

theorem chains_any (n : Nat) (w : World) (h : n ≤ 1000) : Calls Tryd.prog 134 #[.int .i64 n] w fun e w' => e = .returned (.int .i64 (4 * n + 5 : Nat)) ∧ w = w' := by
  have hI : (n : Int) ≤ 1000 := by omega
  go_enter Tryd.func134, Tryd.ntmps134
  go_wp2
  go_ret
  exact ⟨ret_int (by omega), rfl⟩

theorem can_any (size : Int) (v : Value) (bs : List Int) (idx : Int) (w : World) (hs : Sl w v (bs.map (Value.int .u8))) :
    Calls Tryd.prog 121 #[.int .i64 size, v, .int .i64 idx] w fun e w' => e = .returned (.bool (canB size bs.length idx)) ∧ w = w' := by
  obtain ⟨b, hb⟩ : ∃ b, b = canB size bs.length idx := ⟨_, rfl⟩
  rw [← hb]
  have HB := Lib.hid hb
  clear hb
  obtain ⟨a, cap, rfl, hc, hm⟩ := hs.shape
  rw [List.length_map] at *
  by_cases h0 : 1 ≤ size
  ·
    by_cases h1 : size ≤ 32
    ·
      by_cases h2 : bs.length ≤ 64
      ·
        by_cases h3 : 0 ≤ idx
        ·
          by_cases h4 : idx < 256
          ·
            go_enter Tryd.func121, Tryd.ntmps121
            go_wp2
            go_ret
            exact ⟨ret_bool (by rw [HB.out]; unfold canB; first | exact (decide_eq_true (by omega)).symm | exact (decide_eq_false (by omega)).symm), rfl⟩
          ·
            go_enter Tryd.func121, Tryd.ntmps121
            go_wp2
            go_ret
            exact ⟨ret_bool (by rw [HB.out]; unfold canB; first | exact (decide_eq_true (by omega)).symm | exact (decide_eq_false (by omega)).symm), rfl⟩
        ·
          go_enter Tryd.func121, Tryd.ntmps121
          go_wp2
          go_ret
          exact ⟨ret_bool (by rw [HB.out]; unfold canB; first | exact (decide_eq_true (by omega)).symm | exact (decide_eq_false (by omega)).symm), rfl⟩
      ·
        go_enter Tryd.func121, Tryd.ntmps121
        go_wp2
        go_ret
        exact ⟨ret_bool (by rw [HB.out]; unfold canB; first | exact (decide_eq_true (by omega)).symm | exact (decide_eq_false (by omega)).symm), rfl⟩
    ·
      go_enter Tryd.func121, Tryd.ntmps121
      go_wp2
      go_ret
      exact ⟨ret_bool (by rw [HB.out]; unfold canB; first | exact (decide_eq_true (by omega)).symm | exact (decide_eq_false (by omega)).symm), rfl⟩
  ·
    go_enter Tryd.func121, Tryd.ntmps121
    go_wp2
    go_ret
    exact ⟨ret_bool (by rw [HB.out]; unfold canB; first | exact (decide_eq_true (by omega)).symm | exact (decide_eq_false (by omega)).symm), rfl⟩


theorem refCan_any (size : Int) (v : Value) (bs : List Int) (idx : Int) (w : World) (hs : Sl w v (bs.map (Value.int .u8))) :
    Calls Tryd.prog 70 #[.int .i64 size, v, .int .i64 idx] w fun e w' => e = .returned (.bool (canB size bs.length idx)) ∧ w = w' := by
  obtain ⟨b, hb⟩ : ∃ b, b = canB size bs.length idx := ⟨_, rfl⟩
  rw [← hb]
  have HB := Lib.hid hb
  clear hb
  obtain ⟨a, cap, rfl, hc, hm⟩ := hs.shape
  rw [List.length_map] at *
  by_cases h0 : 1 ≤ size
  ·
    by_cases h1 : size ≤ 32
    ·
      by_cases h2 : bs.length ≤ 64
      ·
        by_cases h3 : 0 ≤ idx
        ·
          by_cases h4 : idx < 256
          ·
            go_enter Tryd.func70, Tryd.ntmps70
            go_wp2
            go_ret
            exact ⟨ret_bool (by rw [HB.out]; unfold canB; first | exact (decide_eq_true (by omega)).symm | exact (decide_eq_false (by omega)).symm), rfl⟩
          ·
            go_enter Tryd.func70, Tryd.ntmps70
            go_wp2
            go_ret
            exact ⟨ret_bool (by rw [HB.out]; unfold canB; first | exact (decide_eq_true (by omega)).symm | exact (decide_eq_false (by omega)).symm), rfl⟩
        ·
          go_enter Tryd.func70, Tryd.ntmps70
          go_wp2
          go_ret
          exact ⟨ret_bool (by rw [HB.out]; unfold canB; first | exact (decide_eq_true (by omega)).symm | exact (decide_eq_false (by omega)).symm), rfl⟩
      ·
        go_enter Tryd.func70, Tryd.ntmps70
        go_wp2
        go_ret
        exact ⟨ret_bool (by rw [HB.out]; unfold canB; first | exact (decide_eq_true (by omega)).symm | exact (decide_eq_false (by omega)).symm), rfl⟩
    ·
      go_enter Tryd.func70, Tryd.ntmps70
      go_wp2
      go_ret
      exact ⟨ret_bool (by rw [HB.out]; unfold canB; first | exact (decide_eq_true (by omega)).symm | exact (decide_eq_false (by omega)).symm), rfl⟩
  ·
    go_enter Tryd.func70, Tryd.ntmps70
    go_wp2
    go_ret
    exact ⟨ret_bool (by rw [HB.out]; unfold canB; first | exact (decide_eq_true (by omega)).symm | exact (decide_eq_false (by omega)).symm), rfl⟩


set_option maxHeartbeats 400000 in
theorem secret_any (size : Int) (v : Value) (bs : List Int) (idx i : Int) (w : World) (hx0 : -9223372036854775808 ≤ idx) (hx1 : idx ≤ 9223372036854775807) (hi0 : -9223372036854775808 ≤ i) (hi1 : i ≤ 9223372036854775807) (hB : IsB bs) (hs : Sl w v (bs.map (Value.int .u8))) (ht : Tabs w) :
    Calls Tryd.prog 123 #[.int .i64 size, v, .int .i64 idx, .int .i64 i] w fun e w' => ∃ x, e = .returned x ∧ Sl w' x ((secI size bs idx i).map (Value.int .u8)) ∧ Below w.heap.size w w' := by
  have HC := Lib.hid (can_any size v bs idx w hs)
  obtain ⟨va, vn, vc, rfl⟩ := hs.val
  have HS := Lib.hid (show secI size bs idx i = if canB size bs.length idx then hashT size 6 [bs, numI idx, numI i] else [] from rfl)
  generalize canB size bs.length idx = cb at *
  cases cb with
  | false =>
    go_enter Tryd.func123, Tryd.ntmps123
    go_wp2_with fail
    refine HC.out.mono ?_
    rintro e w1 ⟨rfl, rfl⟩
    go_wp2
    go_ret
    exact ⟨_, rfl, by rw [HS.out, if_neg (by decide)]; exact Sl.nil _, Below.refl _ _⟩
  | true =>
    rw [if_pos rfl] at HS
    go_enter Tryd.func123, Tryd.ntmps123
    go_wp2_with fail
    refine HC.out.mono ?_
    rintro e w1 ⟨rfl, rfl⟩
    go_wp2_with fail
    refine (number_any idx w hx0 hx1).mono ?_
    rintro e w2 ⟨n1, rfl, hn1, hb2⟩
    have hs := hs.below hb2 (Nat.le_refl _)
    have ht := ht.below hb2
    go_wp2_with fail
    refine (number_any i w2 hi0 hi1).mono ?_
    rintro e w3 ⟨n2, rfl, hn2, hb3⟩
    have hs := hs.below hb3 (Nat.le_refl _)
    have hn1 := hn1.below hb3 (Nat.le_refl _)
    have ht := ht.below hb3
    have hb3 := below_trans2 hb2 hb3
    clear hb2
    obtain ⟨a1, l1, c1, rfl⟩ := hn1.val
    obtain ⟨a2, l2, c2, rfl⟩ := hn2.val
    have hL := Sls.litA _ 22 (show SlAll w3 [.slice va vn vc, .slice a1 l1 c1, .slice a2 l2 c2] [bs, numI idx, numI i] from ⟨hs, hn1, hn2, trivial⟩) (by simp [maxLen])
    have hbA := hb3.alloc hb3.size (.cells #[.slice va vn vc, .slice a1 l1 c1, .slice a2 l2 c2] 22)
    have htA := ht.below ((Below.refl _ _).alloc (Nat.le_refl _) (.cells #[.slice va vn vc, .slice a1 l1 c1, .slice a2 l2 c2] 22))
    have HH := Lib.hid (hash_any size 6 _ _ _ (by simp) (by decide) (by decide) hL (fun p hp => by
      simp only [List.mem_cons, List.not_mem_nil, or_false] at hp
      rcases hp with rfl | rfl | rfl
      · exact hB
      · exact numI_isB _
      · exact numI_isB _) htA)
    rw [← HS.out] at HH
    clear hL htA ht hs hn1 hn2 hb3
    go_wp2_with fail
    refine HH.out.mono ?_
    rintro e w5 ⟨y, rfl, hy, hb5⟩
    have hbr := hbA.trans (hb5.mono hbA.size)
    go_wp2
    go_ret
    exact ⟨_, rfl, hy, hbr⟩


set_option maxHeartbeats 400000 in
theorem refSecret_any (size : Int) (v : Value) (bs : List Int) (idx i : Int) (w : World) (hx0 : -9223372036854775808 ≤ idx) (hx1 : idx ≤ 9223372036854775807) (hi0 : -9223372036854775808 ≤ i) (hi1 : i ≤ 9223372036854775807) (hB : IsB bs) (hs : Sl w v (bs.map (Value.int .u8)))  :
    Calls Tryd.prog 115 #[.int .i64 size, v, .int .i64 idx, .int .i64 i] w fun e w' => ∃ x, e = .returned x ∧ Sl w' x ((secI size bs idx i).map (Value.int .u8)) ∧ Below w.heap.size w w' := by
  have HC := Lib.hid (refCan_any size v bs idx w hs)
  obtain ⟨va, vn, vc, rfl⟩ := hs.val
  have HS := Lib.hid (show secI size bs idx i = if canB size bs.length idx then hashT size 6 [bs, numI idx, numI i] else [] from rfl)
  generalize canB size bs.length idx = cb at *
  cases cb with
  | false =>
    go_enter Tryd.func115, Tryd.ntmps115
    go_wp2_with fail
    refine HC.out.mono ?_
    rintro e w1 ⟨rfl, rfl⟩
    go_wp2
    go_ret
    exact ⟨_, rfl, by rw [HS.out, if_neg (by decide)]; exact Sl.nil _, Below.refl _ _⟩
  | true =>
    rw [if_pos rfl] at HS
    go_enter Tryd.func115, Tryd.ntmps115
    go_wp2_with fail
    refine HC.out.mono ?_
    rintro e w1 ⟨rfl, rfl⟩
    go_wp2_with fail
    refine (refNumber_any idx w hx0 hx1).mono ?_
    rintro e w2 ⟨n1, rfl, hn1, hb2⟩
    have hs := hs.below hb2 (Nat.le_refl _)
    
    go_wp2_with fail
    refine (refNumber_any i w2 hi0 hi1).mono ?_
    rintro e w3 ⟨n2, rfl, hn2, hb3⟩
    have hs := hs.below hb3 (Nat.le_refl _)
    have hn1 := hn1.below hb3 (Nat.le_refl _)
    
    have hb3 := below_trans2 hb2 hb3
    clear hb2
    obtain ⟨a1, l1, c1, rfl⟩ := hn1.val
    obtain ⟨a2, l2, c2, rfl⟩ := hn2.val
    have hL := Sls.litA _ 22 (show SlAll w3 [.slice va vn vc, .slice a1 l1 c1, .slice a2 l2 c2] [bs, numI idx, numI i] from ⟨hs, hn1, hn2, trivial⟩) (by simp [maxLen])
    have hbA := hb3.alloc hb3.size (.cells #[.slice va vn vc, .slice a1 l1 c1, .slice a2 l2 c2] 22)
    
    have HH := Lib.hid (refHash_any size 6 _ _ _ (by simp) (by decide) (by decide) hL (fun p hp => by
      simp only [List.mem_cons, List.not_mem_nil, or_false] at hp
      rcases hp with rfl | rfl | rfl
      · exact hB
      · exact numI_isB _
      · exact numI_isB _) )
    rw [← HS.out] at HH
    clear hL  hs hn1 hn2 hb3
    go_wp2_with fail
    refine HH.out.mono ?_
    rintro e w5 ⟨y, rfl, hy, hb5⟩
    have hbr := hbA.trans (hb5.mono hbA.size)
    go_wp2
    go_ret
    exact ⟨_, rfl, hy, hbr⟩


set_option maxHeartbeats 400000 in
theorem refKey0_any (size idx : Int) (v : Value) (bs : List Int) (w : World) (hx0 : -9223372036854775808 ≤ idx) (hx1 : idx ≤ 9223372036854775807) (hB : IsB bs) (hs : Sl w v (bs.map (Value.int .u8))) :
    Calls Tryd.prog 116 #[.int .i64 size, .int .i64 idx, v] w fun e w' => ∃ x, e = .returned x ∧ Sl w' x ((hashT size 8 [numI idx, bs]).map (Value.int .u8)) ∧ Below w.heap.size w w' := by
  obtain ⟨va, vn, vc, rfl⟩ := hs.val
  go_enter Tryd.func116, Tryd.ntmps116
  go_wp2_with fail
  refine (refNumber_any idx w hx0 hx1).mono ?_
  rintro e w2 ⟨n1, rfl, hn1, hb2⟩
  have hs := hs.below hb2 (Nat.le_refl _)
  obtain ⟨a1, l1, c1, rfl⟩ := hn1.val
  have hL := Sls.litA _ 22 (show SlAll w2 [.slice a1 l1 c1, .slice va vn vc] [numI idx, bs] from ⟨hn1, hs, trivial⟩) (by simp [maxLen])
  have hbA := hb2.alloc hb2.size (.cells #[.slice a1 l1 c1, .slice va vn vc] 22)
  have HH := Lib.hid (refHash_any size 8 _ _ _ (by simp) (by decide) (by decide) hL (fun p hp => by
    simp only [List.mem_cons, List.not_mem_nil, or_false] at hp
    rcases hp with rfl | rfl
    · exact numI_isB _
    · exact hB))
  clear hL hs hn1 hb2
  go_wp2_with fail
  refine HH.out.mono ?_
  rintro e w5 ⟨y, rfl, hy, hb5⟩
  have hbr := hbA.trans (hb5.mono hbA.size)
  go_wp2
  go_ret
  exact ⟨_, rfl, hy, hbr⟩


end Go.Proofs.YtililoojjfcfgaaDoor
