
/- The walk along a chain, the reference's; both for natural steps. -/
import Derived.Test.YtjhannlioddkkaaGreatDoorChain
namespace Go.Proofs.YtjhannlioddkkaaGreatDoor
open Go.RowKit
set_option linter.unusedVariables false

set_option maxRecDepth 100000 in
set_option maxHeartbeats 1000000 in
theorem refChain_any (size : Int) (v : Value) (bs : List Int) (idx i fr te : Int) (w : World) (hx0 : -9223372036854775808 ≤ idx) (hx1 : idx ≤ 9223372036854775807) (hi0 : -9223372036854775808 ≤ i) (hi1 : i ≤ 9223372036854775807) (hf1 : fr ≤ 9223372036854775807)
    (hn : bs.length ≤ 140737488351232) (hB : IsB bs) (hs : Sl w v (bs.map (Value.int .u8))) :
    Calls Tryz.prog 78 #[.int .i64 size, v, .int .i64 idx, .int .i64 i, .int .i64 fr, .int .i64 te] w fun e w' => ∃ x, e = .returned x ∧ Sl w' x ((chI size idx i (max fr 0) bs (min te 3 - max fr 0).toNat).map (Value.int .u8)) ∧ Below w.heap.size w w' := by
  obtain ⟨f0, hf0⟩ : ∃ f0 : Int, f0 = max fr 0 := ⟨_, rfl⟩
  obtain ⟨m, hm⟩ : ∃ m : Nat, m = (min te 3 - max fr 0).toNat := ⟨_, rfl⟩
  rw [← hm, ← hf0]
  have HM := Lib.hid hm
  rcases (show 0 < fr ∧ f0 = fr ∨ ¬ 0 < fr ∧ f0 = 0 by omega) with ⟨h, hf⟩ | ⟨h, hf⟩
  all_goals
    have HF := Lib.hid hf0
    obtain ⟨va, vc, rfl, hvc, _⟩ := hs.shape
    rw [List.length_map] at *
    obtain ⟨i0, hi, hz0, hz1, hz2⟩ := info_parts info8c
    have hown0 : (w.alloc (.cells #[] 5)).ownsRow w.heap.size 5 1 (.slice (some ⟨w.heap.size, 0, none⟩) 0 0) 0 [] :=
      World.ownsRow_lit (base := w.heap.size) (e := 5) (size := 1) w #[] 0 (Nat.le_refl _) (by simp [maxLen]) (by simp)
    have hb0 : Below w.heap.size w (w.alloc (.cells #[] 5)) := (Below.refl _ _).alloc (Nat.le_refl _) _
    have hs1 := hs.below hb0 (Nat.le_refl _)
    have HN := Lib.hid hn
    clear hf hf0 hm hn hs
    go_enter Tryz.func78, Tryz.ntmps78
    go_wp2_with (at_builtin; refine wpList_append_sl rfl _ _ 22 rfl w.heap.size 5 i0 (.int .u8 0) 1 Tryz.underlying22 hi hz0 hz1 hz2 rfl _ 0 [] rfl hown0 (.slice va bs.length vc) (bs.map (Value.int .u8)) rfl hs1 (one8 _) (by have := HN.out; rw [List.length_map]; unfold maxLen; omega) (by have := HN.out; rw [List.length_map]; omega) (by simp) ?_)
    intro x1 w1 hown1 hg1
    have hb1 := below_grown hb0 hown0 (Nat.le_refl _) (by simp) hg1
    have hs1 : Sl w1 x1 (bs.map (Value.int .u8)) := by simpa using Sl.of_owns hown1
    clear hown0 hown1 hg1 hb0
    go_wp2
    go_loopw [1, 13] (fun x k wr => ∃ (j : Nat) (q : Int) (xv : Value), xv = x ∧ k = .int .i64 q ∧ Hid (q = f0 + j) ∧ 0 ≤ q ∧ q ≤ 9223372036854775807 ∧ j ≤ m ∧ Sl wr x ((chI size idx i f0 bs j).map (Value.int .u8)) ∧ Below w.heap.size w wr) (fun _ k _ => (3 - intOf k).toNat)
    case atStart =>
      refine ⟨0, f0, _, rfl, ?_, show f0 = f0 + (0 : Nat) by omega, by have := HF.out; omega, by have := HF.out; omega, by omega, hs1, hb1⟩
      have := HF.out
      first | rfl | (congr 1; omega)
    case round =>
      obtain ⟨j, q, x, rfl, rfl, hq, hq0, hq1, hj, hsx, hbr⟩ := hrel
      have hXB := chI_isB size idx i f0 bs hB j
      have HSN := Lib.hid (show chI size idx i f0 bs (j + 1) = hashT size 7 [numI idx, numI i, numI q, chI size idx i f0 bs j] by rw [hq.out]; rfl)
      clear hs1 hb1
      by_cases h3 : te < 3
      · by_cases hto : q < te
        · go_wp2_with fail
          refine (refNumber_any idx wr hx0 hx1).mono ?_
          rintro e w2 ⟨n1, rfl, hn1, hb2⟩
          have hsx := hsx.below hb2 (Nat.le_refl _)
          have hbr := hbr.trans (hb2.mono hbr.size)
          clear hb2
          go_wp2_with fail
          refine (refNumber_any i w2 hi0 hi1).mono ?_
          rintro e w3 ⟨n2, rfl, hn2, hb3⟩
          have hsx := hsx.below hb3 (Nat.le_refl _)
          have hn1 := hn1.below hb3 (Nat.le_refl _)
          have hbr := hbr.trans (hb3.mono hbr.size)
          clear hb3
          go_wp2_with fail
          refine (refNumber_any q w3 (by omega) (by omega)).mono ?_
          rintro e w4 ⟨n3, rfl, hn3, hb4⟩
          have hsx := hsx.below hb4 (Nat.le_refl _)
          have hn1 := hn1.below hb4 (Nat.le_refl _)
          have hn2 := hn2.below hb4 (Nat.le_refl _)
          have hbr := hbr.trans (hb4.mono hbr.size)
          clear hb4
          obtain ⟨a1, l1, c1, rfl⟩ := hn1.val
          obtain ⟨a2, l2, c2, rfl⟩ := hn2.val
          obtain ⟨a3, l3, c3, rfl⟩ := hn3.val
          obtain ⟨a4, l4, c4, rfl⟩ := hsx.val
          have hL := Sls.litA _ 22 (show SlAll w4 [.slice a1 l1 c1, .slice a2 l2 c2, .slice a3 l3 c3, .slice a4 l4 c4] [numI idx, numI i, numI q, chI size idx i f0 bs j] from ⟨hn1, hn2, hn3, hsx, trivial⟩) (by simp [maxLen])
          have hbA := hbr.alloc hbr.size (.cells #[.slice a1 l1 c1, .slice a2 l2 c2, .slice a3 l3 c3, .slice a4 l4 c4] 22)
          have HH := Lib.hid (refHash_any size 7 _ _ _ (by simp) (by decide) (by decide) hL (numI_all (numI_all (numI_all (fun p hp => by
            obtain rfl := List.mem_singleton.1 hp
            exact hXB) _) _) _))
          rw [← HSN.out] at HH
          clear hL hsx hn1 hn2 hn3 hXB
          go_wp2_with fail
          refine HH.out.mono ?_
          rintro e w5 ⟨y, rfl, hy, hb5⟩
          have hbr := hbA.trans (hb5.mono hbA.size)
          clear hb5 hbA HH
          go_wp2
          go_roundw
          case rel => exact ⟨j + 1, q + 1, _, rfl, by go_num, by have := hq.out; show q + 1 = f0 + ((j + 1 : Nat) : Int); omega, by omega, by omega, by have := hq.out; have := HM.out; have := HF.out; omega, hy, hbr⟩
          case measure => simp [intOf]; omega
        · go_wp2
          go_ret
          refine ⟨_, rfl, ?_, hbr⟩
          have : j = m := by have := hq.out; have := HM.out; have := HF.out; omega
          rw [← this]; exact hsx
      · by_cases hto : q < 3
        · go_wp2_with fail
          refine (refNumber_any idx wr hx0 hx1).mono ?_
          rintro e w2 ⟨n1, rfl, hn1, hb2⟩
          have hsx := hsx.below hb2 (Nat.le_refl _)
          have hbr := hbr.trans (hb2.mono hbr.size)
          clear hb2
          go_wp2_with fail
          refine (refNumber_any i w2 hi0 hi1).mono ?_
          rintro e w3 ⟨n2, rfl, hn2, hb3⟩
          have hsx := hsx.below hb3 (Nat.le_refl _)
          have hn1 := hn1.below hb3 (Nat.le_refl _)
          have hbr := hbr.trans (hb3.mono hbr.size)
          clear hb3
          go_wp2_with fail
          refine (refNumber_any q w3 (by omega) (by omega)).mono ?_
          rintro e w4 ⟨n3, rfl, hn3, hb4⟩
          have hsx := hsx.below hb4 (Nat.le_refl _)
          have hn1 := hn1.below hb4 (Nat.le_refl _)
          have hn2 := hn2.below hb4 (Nat.le_refl _)
          have hbr := hbr.trans (hb4.mono hbr.size)
          clear hb4
          obtain ⟨a1, l1, c1, rfl⟩ := hn1.val
          obtain ⟨a2, l2, c2, rfl⟩ := hn2.val
          obtain ⟨a3, l3, c3, rfl⟩ := hn3.val
          obtain ⟨a4, l4, c4, rfl⟩ := hsx.val
          have hL := Sls.litA _ 22 (show SlAll w4 [.slice a1 l1 c1, .slice a2 l2 c2, .slice a3 l3 c3, .slice a4 l4 c4] [numI idx, numI i, numI q, chI size idx i f0 bs j] from ⟨hn1, hn2, hn3, hsx, trivial⟩) (by simp [maxLen])
          have hbA := hbr.alloc hbr.size (.cells #[.slice a1 l1 c1, .slice a2 l2 c2, .slice a3 l3 c3, .slice a4 l4 c4] 22)
          have HH := Lib.hid (refHash_any size 7 _ _ _ (by simp) (by decide) (by decide) hL (numI_all (numI_all (numI_all (fun p hp => by
            obtain rfl := List.mem_singleton.1 hp
            exact hXB) _) _) _))
          rw [← HSN.out] at HH
          clear hL hsx hn1 hn2 hn3 hXB
          go_wp2_with fail
          refine HH.out.mono ?_
          rintro e w5 ⟨y, rfl, hy, hb5⟩
          have hbr := hbA.trans (hb5.mono hbA.size)
          clear hb5 hbA HH
          go_wp2
          go_roundw
          case rel => exact ⟨j + 1, q + 1, _, rfl, by go_num, by have := hq.out; show q + 1 = f0 + ((j + 1 : Nat) : Int); omega, by omega, by omega, by have := hq.out; have := HM.out; have := HF.out; omega, hy, hbr⟩
          case measure => simp [intOf]; omega
        · go_wp2
          go_ret
          refine ⟨_, rfl, ?_, hbr⟩
          have : j = m := by have := hq.out; have := HM.out; have := HF.out; omega
          rw [← this]; exact hsx


theorem chainN_any (size : Int) (v : Value) (bs : List Int) (idx i : Int) (fr te : Nat) (w : World) (hx0 : -9223372036854775808 ≤ idx) (hx1 : idx ≤ 9223372036854775807) (hi0 : -9223372036854775808 ≤ i) (hi1 : i ≤ 9223372036854775807) (h1 : fr ≤ te) (h2 : te ≤ 3)
    (hn : bs.length ≤ 140737488351232) (hB : IsB bs) (hs : Sl w v (bs.map (Value.int .u8))) (ht : Tabs w) :
    Calls Tryz.prog 74 #[.int .i64 size, v, .int .i64 idx, .int .i64 i, .int .i64 fr, .int .i64 te] w fun e w' => ∃ x, e = .returned x ∧ Sl w' x ((chI size idx i fr bs (te - fr)).map (Value.int .u8)) ∧ Below w.heap.size w w' := by
  have h := chain_any size v bs idx i fr te w hx0 hx1 hi0 hi1 (by omega) hn hB hs ht
  rw [show max (fr : Int) 0 = fr by omega, show (min (te : Int) 3 - fr).toNat = te - fr by omega] at h
  exact h


theorem refChainN_any (size : Int) (v : Value) (bs : List Int) (idx i : Int) (fr te : Nat) (w : World) (hx0 : -9223372036854775808 ≤ idx) (hx1 : idx ≤ 9223372036854775807) (hi0 : -9223372036854775808 ≤ i) (hi1 : i ≤ 9223372036854775807) (h1 : fr ≤ te) (h2 : te ≤ 3)
    (hn : bs.length ≤ 140737488351232) (hB : IsB bs) (hs : Sl w v (bs.map (Value.int .u8))) :
    Calls Tryz.prog 78 #[.int .i64 size, v, .int .i64 idx, .int .i64 i, .int .i64 fr, .int .i64 te] w fun e w' => ∃ x, e = .returned x ∧ Sl w' x ((chI size idx i fr bs (te - fr)).map (Value.int .u8)) ∧ Below w.heap.size w w' := by
  have h := refChain_any size v bs idx i fr te w hx0 hx1 hi0 hi1 (by omega) hn hB hs
  rw [show max (fr : Int) 0 = fr by omega, show (min (te : Int) 3 - fr).toNat = te - fr by omega] at h
  exact h


end Go.Proofs.YtjhannlioddkkaaGreatDoor
