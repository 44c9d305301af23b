/- The walk of the law WotsSigns. -/
import Derived.Test.YtkabinicmdcbpaaDoorWotsN
import Derived.Test.YtkabinicmdcbpaaDoorWotsC
import Derived.Test.YtkabinicmdcbpaaDoorSame
namespace Go.Proofs.YtkabinicmdcbpaaDoor
open Go.RowKit
set_option linter.unusedVariables false

theorem sgU_isB (size : Int) (seed : List Int) (idx : Int) (dd : List Int) (k : Nat) : ∀ p ∈ sgU size seed idx dd k, IsB p := fun p hp => by
  unfold sgU at hp
  obtain ⟨i, _, rfl⟩ := List.mem_map.1 hp
  exact chI_isB _ _ _ _ _ (secI_isB _ _ _ _) _
theorem signL_isB (size : Int) (seed : List Int) (idx : Int) (dg : List Int) : ∀ p ∈ signL size seed idx dg, IsB p := by
  unfold signL; split
  · exact sgU_isB _ _ _ _ _
  · intro p hp; cases hp

set_option maxRecDepth 100000 in
set_option maxHeartbeats 1000000 in
theorem wotsSigns_walk (size : Int) (v : Value) (seed : List Int) (idx : Int) (vd : Value) (dg : List Int) (vl : Value) (l : List (List Int)) (w : World) (ht : Tabs w) (hz0 : -9223372036854775808 ≤ size) (hz1 : size ≤ 9223372036854775807) (hB : IsB seed) (hs : Sl w v (seed.map (Value.int .u8))) (hn : seed.length ≤ 140737488351232)
    (hx0 : -9223372036854775808 ≤ idx) (hx1 : idx ≤ 9223372036854775807) (hBd : IsB dg) (hd : Sl w vd (dg.map (Value.int .u8))) (hnd : dg.length ≤ 140737488351232) (hBl : ∀ p ∈ l, IsB p) (hl : Sls w vl l) :
    Calls Tryd.prog 4 #[.int .i64 size, v, .int .i64 idx, vd, vl] w fun e w' => e = .returned (.bool true) ∧ Below w.heap.size w w' := by
  clear hn hnd
  go_enter Tryd.func4, Tryd.ntmps4
  go_wp2_with fail
  refine (key_any size v seed idx w hx0 hx1 hB hs ht).mono ?_
  rintro e w1 ⟨y1, rfl, hy1, hb1⟩
  have hs := hs.below hb1 (Nat.le_refl _)
  have hd := hd.below hb1 (Nat.le_refl _)
  have hl := hl.below hb1 (Nat.le_refl _)
  have ht := ht.below hb1
  go_wp2_with fail
  refine (refKey_any size v seed idx w1 hx0 hx1 hB hs).mono ?_
  rintro e w2 ⟨y2, rfl, hy2, hb2⟩
  have hs := hs.below hb2 (Nat.le_refl _)
  have hd := hd.below hb2 (Nat.le_refl _)
  have hl := hl.below hb2 (Nat.le_refl _)
  have ht := ht.below hb2
  have hy1 := hy1.below hb2 (Nat.le_refl _)
  have hc2 := below_trans2 hb1 hb2
  clear hb1 hb2
  go_wp2_with fail
  refine (sign_any size v seed idx vd dg w2 hx0 hx1 hB hs hBd hd ht).mono ?_
  rintro e w3 ⟨y3, rfl, hy3, hb3⟩
  have hs := hs.below hb3 (Nat.le_refl _)
  have hd := hd.below hb3 (Nat.le_refl _)
  have hl := hl.below hb3 (Nat.le_refl _)
  have ht := ht.below hb3
  have hy1 := hy1.below hb3 (Nat.le_refl _)
  have hy2 := hy2.below hb3 (Nat.le_refl _)
  have hc3 := below_trans2 hc2 hb3
  clear hc2 hb3
  go_wp2_with fail
  refine (refSign_any size v seed idx vd dg w3 hx0 hx1 hB hs hBd hd).mono ?_
  rintro e w4 ⟨y4, rfl, hy4, hb4⟩
  have hs := hs.below hb4 (Nat.le_refl _)
  have hd := hd.below hb4 (Nat.le_refl _)
  have hl := hl.below hb4 (Nat.le_refl _)
  have ht := ht.below hb4
  have hy1 := hy1.below hb4 (Nat.le_refl _)
  have hy2 := hy2.below hb4 (Nat.le_refl _)
  have hy3 := hy3.below hb4 (Nat.le_refl _)
  have hc4 := below_trans2 hc3 hb4
  clear hc3 hb4
  go_wp2_with fail
  refine (recover_any size vl l idx vd dg w4 hz0 hz1 hx0 hx1 hBl hl hBd hd ht).mono ?_
  rintro e w5 ⟨y5, rfl, hy5, hb5⟩
  have hs := hs.below hb5 (Nat.le_refl _)
  have hd := hd.below hb5 (Nat.le_refl _)
  have hl := hl.below hb5 (Nat.le_refl _)
  have ht := ht.below hb5
  have hy1 := hy1.below hb5 (Nat.le_refl _)
  have hy2 := hy2.below hb5 (Nat.le_refl _)
  have hy3 := hy3.below hb5 (Nat.le_refl _)
  have hy4 := hy4.below hb5 (Nat.le_refl _)
  have hc5 := below_trans2 hc4 hb5
  clear hc4 hb5
  go_wp2_with fail
  refine (refRecover_any size vl l idx vd dg w5 hz0 hz1 hx0 hx1 hBl hl hBd hd).mono ?_
  rintro e w6 ⟨y6, rfl, hy6, hb6⟩
  have hs := hs.below hb6 (Nat.le_refl _)
  have hd := hd.below hb6 (Nat.le_refl _)
  have hl := hl.below hb6 (Nat.le_refl _)
  have ht := ht.below hb6
  have hy1 := hy1.below hb6 (Nat.le_refl _)
  have hy2 := hy2.below hb6 (Nat.le_refl _)
  have hy3 := hy3.below hb6 (Nat.le_refl _)
  have hy4 := hy4.below hb6 (Nat.le_refl _)
  have hy5 := hy5.below hb6 (Nat.le_refl _)
  have hc6 := below_trans2 hc5 hb6
  clear hc5 hb6
  go_wp2_with fail
  refine (bytesEq_same _ _ _ w6 hy1 hy2 (keyL_isB _ _ _)).mono ?_
  rintro e w7 ⟨rfl, rfl⟩
  have HSS := Lib.hid (sameTexts_any _ _ _ _ w6 hy3 hy4 (signL_isB _ _ _ _) (signL_isB _ _ _ _))
  rw [decide_eq_true rfl] at HSS
  go_wp2_with fail
  refine (HSS.out).mono ?_
  rintro e w7 ⟨rfl, rfl⟩
  go_wp2_with fail
  refine (bytesEq_same _ _ _ w6 hy5 hy6 (recL_isB _ _ _ _)).mono ?_
  rintro e w7 ⟨rfl, rfl⟩
  go_wp2_with fail
  refine (wotsAwake_any w6).mono ?_
  rintro e w7 ⟨rfl, hb7⟩
  have hs := hs.below hb7 (Nat.le_refl _)
  have hd := hd.below hb7 (Nat.le_refl _)
  have hl := hl.below hb7 (Nat.le_refl _)
  have ht := ht.below hb7
  have hy1 := hy1.below hb7 (Nat.le_refl _)
  have hy2 := hy2.below hb7 (Nat.le_refl _)
  have hy3 := hy3.below hb7 (Nat.le_refl _)
  have hy4 := hy4.below hb7 (Nat.le_refl _)
  have hy5 := hy5.below hb7 (Nat.le_refl _)
  have hy6 := hy6.below hb7 (Nat.le_refl _)
  have hc7 := below_trans2 hc6 hb7
  clear hc6 hb7
  go_wp2
  go_ret
  exact ⟨rfl, hc7⟩

end Go.Proofs.YtkabinicmdcbpaaDoor
