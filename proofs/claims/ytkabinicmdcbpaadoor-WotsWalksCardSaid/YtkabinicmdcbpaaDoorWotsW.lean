/- The walk of the law WotsWalks. -/
import Derived.Test.YtkabinicmdcbpaaDoorChain
import Derived.Test.YtkabinicmdcbpaaDoorWotsC
namespace Go.Proofs.YtkabinicmdcbpaaDoor
open Go.RowKit
set_option linter.unusedVariables false

theorem walks_eq (size idx i : Int) (bs : List Int) (m : Nat) (h : m ≤ 3) : chI size idx i (max (m : Int) 0) (chI size idx i (max (0 : Int) 0) bs (min (m : Int) 3 - max (0 : Int) 0).toNat) (min (3 : Int) 3 - max (m : Int) 0).toNat = chI size idx i (max (0 : Int) 0) bs (min (3 : Int) 3 - max (0 : Int) 0).toNat := by
  rw [show max (m : Int) 0 = m by omega, show max (0 : Int) 0 = 0 by omega, show (min (m : Int) 3 - 0).toNat = m by omega, show (min (3 : Int) 3 - m).toNat = 3 - m by omega, show (min (3 : Int) 3 - 0).toNat = m + (3 - m) by omega, chI_add, Int.zero_add]

set_option maxHeartbeats 400000 in
theorem wotsWalks_walk (size : Int) (v : Value) (bs : List Int) (idx i mid : Int) (w : World) (ht : Tabs w) (hz0 : -9223372036854775808 ≤ size) (hz1 : size ≤ 9223372036854775807) (hB : IsB bs) (hs : Sl w v (bs.map (Value.int .u8))) (hn : bs.length ≤ 140737488351232)
    (hx0 : -9223372036854775808 ≤ idx) (hx1 : idx ≤ 9223372036854775807) (hi0 : -9223372036854775808 ≤ i) (hi1 : i ≤ 9223372036854775807) (hm0 : -9223372036854775808 ≤ mid) (hm1 : mid ≤ 9223372036854775807) :
    Calls Tryd.prog 3 #[.int .i64 size, v, .int .i64 idx, .int .i64 i, .int .i64 mid] w fun e w' => e = .returned (.bool true) ∧ Below w.heap.size w w' := by
  have h1 := u64_rem size 32 (by omega) (by omega)
  generalize hL : wrap64 ((IntKind.u64.wrap size).tmod 32) = L at h1
  obtain ⟨n, rfl⟩ : ∃ n : Nat, L = n := ⟨L.toNat, by omega⟩
  have h2 := u64_rem mid 4 (by omega) (by omega)
  generalize hM : wrap64 ((IntKind.u64.wrap mid).tmod 4) = M at h2
  obtain ⟨m, rfl⟩ : ∃ m : Nat, M = m := ⟨M.toNat, by omega⟩
  have HN := Lib.hid hn
  have HN2 := Lib.hid (show m ≤ 3 by omega)
  clear hn
  go_enter Tryd.func3, Tryd.ntmps3
  go_wp2_with fail
  refine (chain_any (1 + n) v bs idx i 0 m w hx0 hx1 hi0 hi1 (by omega) HN.out hB hs ht).mono ?_
  rintro e w1 ⟨y1, rfl, hy1, hb1⟩
  have hs := hs.below hb1 (Nat.le_refl _)
  have ht := ht.below hb1
  go_wp2_with fail
  refine (chain_any (1 + n) y1 _ idx i m 3 w1 hx0 hx1 hi0 hi1 (by have := HN2.out; omega) (by have := chI_len (1 + n) idx i (max (0 : Int) 0) bs (min (m : Int) 3 - max (0 : Int) 0).toNat; have := HN.out; omega) (chI_isB _ _ _ _ _ hB _) hy1 ht).mono ?_
  rintro e w2 ⟨y2, rfl, hy2, hb2⟩
  have hs := hs.below hb2 (Nat.le_refl _)
  have ht := ht.below hb2
  have hy1 := hy1.below hb2 (Nat.le_refl _)
  have hc2 := below_trans2 hb1 hb2
  clear hb1 hb2
  rw [walks_eq (1 + n) idx i bs m HN2.out] at hy2
  clear hy1
  go_wp2_with fail
  refine (chain_any (1 + n) v bs idx i 0 3 w2 hx0 hx1 hi0 hi1 (by omega) HN.out hB hs ht).mono ?_
  rintro e w3 ⟨y3, rfl, hy3, hb3⟩
  have hs := hs.below hb3 (Nat.le_refl _)
  have ht := ht.below hb3
  have hy2 := hy2.below hb3 (Nat.le_refl _)
  have hc3 := below_trans2 hc2 hb3
  clear hc2 hb3
  go_wp2_with fail
  refine (bytesEq_same _ _ _ w3 hy2 hy3 (chI_isB _ _ _ _ _ hB _)).mono ?_
  rintro e w4 ⟨rfl, rfl⟩
  go_wp2_with fail
  refine (wotsAwake_any w3).mono ?_
  rintro e w4 ⟨rfl, hb4⟩
  have hs := hs.below hb4 (Nat.le_refl _)
  have ht := ht.below hb4
  have hy2 := hy2.below hb4 (Nat.le_refl _)
  have hy3 := hy3.below hb4 (Nat.le_refl _)
  have hc4 := below_trans2 hc3 hb4
  clear hc3 hb4
  go_wp2
  go_ret
  exact ⟨rfl, hc4⟩

end Go.Proofs.YtkabinicmdcbpaaDoor
