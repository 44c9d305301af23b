/- The walk along a chain, the program's. The walk along a chain, the reference's; both for natural steps. The walks of what may be, of a chain's beginning, of how many chains there are; the program's and the reference's. Words for memory that is known block by block, and for what has turned. Conditions: none. Rows of the call's own whose cells are no bytes; lists of texts that the call makes. Conditions: none. -/
import Derived.Test.YtililoojjfcfgaaDoorTextD
import Derived.Test.YtililoojjfcfgaaDoorClone
import Derived.Test.YtililoojjfcfgaaDoorLib2
import Derived.OwnWalk
import Derived.Maps.AppendAt
import Derived.OneCell
import Derived.Deep.Draws
namespace Go.Proofs.YtililoojjfcfgaaDoor
open Go.RowKit
set_option linter.unusedVariables false

/-- n steps along a chain from the step f on. -/
def chI (size idx i f : Int) (x : List Int) : Nat → List Int
  | 0 => x
  | n + 1 => hashT size 7 [numI idx, numI i, numI (f + n), chI size idx i f x n]

theorem chI_add (size idx i f : Int) (x : List Int) (a b : Nat) : chI size idx i f x (a + b) = chI size idx i (f + a) (chI size idx i f x a) b := by
  induction b with
  | zero => rfl
  | succ b ih =>
    rw [← Nat.add_assoc]
    simp only [chI]
    rw [ih, show f + ((a + b : Nat) : Int) = f + a + b by omega]

theorem hashT_isB' (size tag : Int) (pss : List (List Int)) : IsB (hashT size tag pss) := by
  unfold hashT; split
  · exact cutI_isB _ _
  · intro x hx; cases hx

theorem hashT_len (size tag : Int) (pss : List (List Int)) : (hashT size tag pss).length ≤ 32 := by
  unfold hashT; split
  · rw [cutI_len]; omega
  · simp

theorem chI_isB (size idx i f : Int) (x : List Int) (h : IsB x) : ∀ n, IsB (chI size idx i f x n)
  | 0 => h
  | n + 1 => hashT_isB' _ _ _

theorem chI_len (size idx i f : Int) (x : List Int) (n : Nat) : (chI size idx i f x n).length ≤ max x.length 32 := by
  cases n with
  | zero => simp only [chI]; omega
  | succ n => have := hashT_len size 7 [numI idx, numI i, numI (f + n), chI size idx i f x n]; simp only [chI]; omega

theorem numI_all {ps : List (List Int)} (h : ∀ p ∈ ps, IsB p) (n : Int) : ∀ p ∈ numI n :: ps, IsB p := fun p hp => by
  rcases List.mem_cons.1 hp with rfl | hp
  · exact numI_isB n
  · exact h p hp

set_option maxHeartbeats 1000000 in
theorem chain_any (size : Int) (v : Value) (bs : List Int) (idx i fr te : Int) (w : World) (hx0 : -9223372036854775808 ≤ idx) (hx1 : idx ≤ 9223372036854775807) (hi0 : -9223372036854775808 ≤ i) (hi1 : i ≤ 9223372036854775807) (hf1 : fr ≤ 9223372036854775807)
    (hn : bs.length ≤ 140737488351232) (hB : IsB bs) (hs : Sl w v (bs.map (Value.int .u8))) (ht : Tabs w) :
    Calls Tryd.prog 122 #[.int .i64 size, v, .int .i64 idx, .int .i64 i, .int .i64 fr, .int .i64 te] w fun e w' => ∃ x, e = .returned x ∧ Sl w' x ((chI size idx i (max fr 0) bs (min te 3 - max fr 0).toNat).map (Value.int .u8)) ∧ Below w.heap.size w w' := by
  obtain ⟨f0, hf0⟩ : ∃ f0 : Int, f0 = max fr 0 := ⟨_, rfl⟩
  obtain ⟨m, hm⟩ : ∃ m : Nat, m = (min te 3 - max fr 0).toNat := ⟨_, rfl⟩
  rw [← hm, ← hf0]
  have HM := Lib.hid hm
  have HC := Lib.hid (sclone_any v bs w hn hs)
  rcases (show 0 ≤ fr ∧ f0 = fr ∨ fr < 0 ∧ f0 = 0 by omega) with ⟨h, hf⟩ | ⟨h, hf⟩
  all_goals
    have HF := Lib.hid hf0
    clear hf hf0 hm hn hs
    go_enter Tryd.func122, Tryd.ntmps122
    go_wp2_with fail
    refine HC.out.mono ?_
    rintro e w1 ⟨x1, rfl, hs1, hb1⟩
    have ht1 := ht.below hb1
    go_wp2
    go_loopw [1, 13] (fun x k wr => ∃ (j : Nat) (q : Int) (xv : Value), xv = x ∧ k = .int .i64 q ∧ Hid (q = f0 + j) ∧ 0 ≤ q ∧ q ≤ 9223372036854775807 ∧ j ≤ m ∧ Sl wr x ((chI size idx i f0 bs j).map (Value.int .u8)) ∧ Below w.heap.size w wr) (fun _ k _ => (3 - intOf k).toNat)
    case atStart =>
      refine ⟨0, f0, _, rfl, ?_, show f0 = f0 + (0 : Nat) by omega, by have := HF.out; omega, by have := HF.out; omega, by omega, hs1, hb1⟩
      have := HF.out
      first | rfl | (congr 1; omega)
    case round =>
      obtain ⟨j, q, x, rfl, rfl, hq, hq0, hq1, hj, hsx, hbr⟩ := hrel
      have htr := ht.below hbr
      have hXB := chI_isB size idx i f0 bs hB j
      have HSN := Lib.hid (show chI size idx i f0 bs (j + 1) = hashT size 7 [numI idx, numI i, numI q, chI size idx i f0 bs j] by rw [hq.out]; rfl)
      clear hs1 hb1 ht1 ht
      by_cases h3 : q < 3
      · by_cases hto : q < te
        · go_wp2_with fail
          refine (number_any idx wr hx0 hx1).mono ?_
          rintro e w2 ⟨n1, rfl, hn1, hb2⟩
          have hsx := hsx.below hb2 (Nat.le_refl _)
          have hbr := hbr.trans (hb2.mono hbr.size)
          have htr := htr.below hb2
          clear hb2
          go_wp2_with fail
          refine (number_any i w2 hi0 hi1).mono ?_
          rintro e w3 ⟨n2, rfl, hn2, hb3⟩
          have hsx := hsx.below hb3 (Nat.le_refl _)
          have hn1 := hn1.below hb3 (Nat.le_refl _)
          have hbr := hbr.trans (hb3.mono hbr.size)
          have htr := htr.below hb3
          clear hb3
          go_wp2_with fail
          refine (number_any q w3 (by omega) (by omega)).mono ?_
          rintro e w4 ⟨n3, rfl, hn3, hb4⟩
          have hsx := hsx.below hb4 (Nat.le_refl _)
          have hn1 := hn1.below hb4 (Nat.le_refl _)
          have hn2 := hn2.below hb4 (Nat.le_refl _)
          have hbr := hbr.trans (hb4.mono hbr.size)
          have htr := htr.below hb4
          clear hb4
          obtain ⟨a1, l1, c1, rfl⟩ := hn1.val
          obtain ⟨a2, l2, c2, rfl⟩ := hn2.val
          obtain ⟨a3, l3, c3, rfl⟩ := hn3.val
          obtain ⟨a4, l4, c4, rfl⟩ := hsx.val
          have hL := Sls.litA _ 22 (show SlAll w4 [.slice a1 l1 c1, .slice a2 l2 c2, .slice a3 l3 c3, .slice a4 l4 c4] [numI idx, numI i, numI q, chI size idx i f0 bs j] from ⟨hn1, hn2, hn3, hsx, trivial⟩) (by simp [maxLen])
          have hbA := hbr.alloc hbr.size (.cells #[.slice a1 l1 c1, .slice a2 l2 c2, .slice a3 l3 c3, .slice a4 l4 c4] 22)
          have htA := htr.below ((Below.refl _ _).alloc (Nat.le_refl _) (.cells #[.slice a1 l1 c1, .slice a2 l2 c2, .slice a3 l3 c3, .slice a4 l4 c4] 22))
          have HH := Lib.hid (hash_any size 7 _ _ _ (by simp) (by decide) (by decide) hL (numI_all (numI_all (numI_all (fun p hp => by
            obtain rfl := List.mem_singleton.1 hp
            exact hXB) _) _) _) htA)
          rw [← HSN.out] at HH
          clear hL htA htr hsx hn1 hn2 hn3 hXB
          go_wp2_with fail
          refine HH.out.mono ?_
          rintro e w5 ⟨y, rfl, hy, hb5⟩
          have hbr := hbA.trans (hb5.mono hbA.size)
          clear hb5 hbA HH
          go_wp2
          go_roundw
          case rel => exact ⟨j + 1, q + 1, _, rfl, by go_num, by have := hq.out; show q + 1 = f0 + ((j + 1 : Nat) : Int); omega, by omega, by omega, by have := hq.out; have := HM.out; have := HF.out; omega, hy, hbr⟩
          case measure => simp [intOf]; omega
        · go_wp2
          go_ret
          refine ⟨_, rfl, ?_, hbr⟩
          have : j = m := by have := hq.out; have := HM.out; have := HF.out; omega
          rw [← this]; exact hsx
      · by_cases hto : q < te
        all_goals
          go_wp2
          go_ret
          refine ⟨_, rfl, ?_, hbr⟩
          have : j = m := by have := hq.out; have := HM.out; have := HF.out; omega
          rw [← this]; exact hsx

end Go.Proofs.YtililoojjfcfgaaDoor

namespace Go.Proofs.YtililoojjfcfgaaDoor
open Go.RowKit
set_option linter.unusedVariables false

set_option maxRecDepth 100000 in
set_option maxHeartbeats 1000000 in
theorem refChain_any (size : Int) (v : Value) (bs : List Int) (idx i fr te : Int) (w : World) (hx0 : -9223372036854775808 ≤ idx) (hx1 : idx ≤ 9223372036854775807) (hi0 : -9223372036854775808 ≤ i) (hi1 : i ≤ 9223372036854775807) (hf1 : fr ≤ 9223372036854775807)
    (hn : bs.length ≤ 140737488351232) (hB : IsB bs) (hs : Sl w v (bs.map (Value.int .u8))) :
    Calls Tryd.prog 114 #[.int .i64 size, v, .int .i64 idx, .int .i64 i, .int .i64 fr, .int .i64 te] w fun e w' => ∃ x, e = .returned x ∧ Sl w' x ((chI size idx i (max fr 0) bs (min te 3 - max fr 0).toNat).map (Value.int .u8)) ∧ Below w.heap.size w w' := by
  obtain ⟨f0, hf0⟩ : ∃ f0 : Int, f0 = max fr 0 := ⟨_, rfl⟩
  obtain ⟨m, hm⟩ : ∃ m : Nat, m = (min te 3 - max fr 0).toNat := ⟨_, rfl⟩
  rw [← hm, ← hf0]
  have HM := Lib.hid hm
  rcases (show 0 < fr ∧ f0 = fr ∨ ¬ 0 < fr ∧ f0 = 0 by omega) with ⟨h, hf⟩ | ⟨h, hf⟩
  all_goals
    have HF := Lib.hid hf0
    obtain ⟨va, vc, rfl, hvc, _⟩ := hs.shape
    rw [List.length_map] at *
    obtain ⟨i0, hi, hz0, hz1, hz2⟩ := info_parts info8c
    have hown0 : (w.alloc (.cells #[] 5)).ownsRow w.heap.size 5 1 (.slice (some ⟨w.heap.size, 0, none⟩) 0 0) 0 [] :=
      World.ownsRow_lit (base := w.heap.size) (e := 5) (size := 1) w #[] 0 (Nat.le_refl _) (by simp [maxLen]) (by simp)
    have hb0 : Below w.heap.size w (w.alloc (.cells #[] 5)) := (Below.refl _ _).alloc (Nat.le_refl _) _
    have hs1 := hs.below hb0 (Nat.le_refl _)
    have HN := Lib.hid hn
    clear hf hf0 hm hn hs
    go_enter Tryd.func114, Tryd.ntmps114
    go_wp2_with (at_builtin; refine wpList_append_sl rfl _ _ 22 rfl w.heap.size 5 i0 (.int .u8 0) 1 Tryd.underlying22 hi hz0 hz1 hz2 rfl _ 0 [] rfl hown0 (.slice va bs.length vc) (bs.map (Value.int .u8)) rfl hs1 (one8 _) (by have := HN.out; rw [List.length_map]; unfold maxLen; omega) (by have := HN.out; rw [List.length_map]; omega) (by simp) ?_)
    intro x1 w1 hown1 hg1
    have hb1 := below_grown hb0 hown0 (Nat.le_refl _) (by simp) hg1
    have hs1 : Sl w1 x1 (bs.map (Value.int .u8)) := by simpa using Sl.of_owns hown1
    clear hown0 hown1 hg1 hb0
    go_wp2
    go_loopw [1, 13] (fun x k wr => ∃ (j : Nat) (q : Int) (xv : Value), xv = x ∧ k = .int .i64 q ∧ Hid (q = f0 + j) ∧ 0 ≤ q ∧ q ≤ 9223372036854775807 ∧ j ≤ m ∧ Sl wr x ((chI size idx i f0 bs j).map (Value.int .u8)) ∧ Below w.heap.size w wr) (fun _ k _ => (3 - intOf k).toNat)
    case atStart =>
      refine ⟨0, f0, _, rfl, ?_, show f0 = f0 + (0 : Nat) by omega, by have := HF.out; omega, by have := HF.out; omega, by omega, hs1, hb1⟩
      have := HF.out
      first | rfl | (congr 1; omega)
    case round =>
      obtain ⟨j, q, x, rfl, rfl, hq, hq0, hq1, hj, hsx, hbr⟩ := hrel
      have hXB := chI_isB size idx i f0 bs hB j
      have HSN := Lib.hid (show chI size idx i f0 bs (j + 1) = hashT size 7 [numI idx, numI i, numI q, chI size idx i f0 bs j] by rw [hq.out]; rfl)
      clear hs1 hb1
      by_cases h3 : te < 3
      · by_cases hto : q < te
        · go_wp2_with fail
          refine (refNumber_any idx wr hx0 hx1).mono ?_
          rintro e w2 ⟨n1, rfl, hn1, hb2⟩
          have hsx := hsx.below hb2 (Nat.le_refl _)
          have hbr := hbr.trans (hb2.mono hbr.size)
          clear hb2
          go_wp2_with fail
          refine (refNumber_any i w2 hi0 hi1).mono ?_
          rintro e w3 ⟨n2, rfl, hn2, hb3⟩
          have hsx := hsx.below hb3 (Nat.le_refl _)
          have hn1 := hn1.below hb3 (Nat.le_refl _)
          have hbr := hbr.trans (hb3.mono hbr.size)
          clear hb3
          go_wp2_with fail
          refine (refNumber_any q w3 (by omega) (by omega)).mono ?_
          rintro e w4 ⟨n3, rfl, hn3, hb4⟩
          have hsx := hsx.below hb4 (Nat.le_refl _)
          have hn1 := hn1.below hb4 (Nat.le_refl _)
          have hn2 := hn2.below hb4 (Nat.le_refl _)
          have hbr := hbr.trans (hb4.mono hbr.size)
          clear hb4
          obtain ⟨a1, l1, c1, rfl⟩ := hn1.val
          obtain ⟨a2, l2, c2, rfl⟩ := hn2.val
          obtain ⟨a3, l3, c3, rfl⟩ := hn3.val
          obtain ⟨a4, l4, c4, rfl⟩ := hsx.val
          have hL := Sls.litA _ 22 (show SlAll w4 [.slice a1 l1 c1, .slice a2 l2 c2, .slice a3 l3 c3, .slice a4 l4 c4] [numI idx, numI i, numI q, chI size idx i f0 bs j] from ⟨hn1, hn2, hn3, hsx, trivial⟩) (by simp [maxLen])
          have hbA := hbr.alloc hbr.size (.cells #[.slice a1 l1 c1, .slice a2 l2 c2, .slice a3 l3 c3, .slice a4 l4 c4] 22)
          have HH := Lib.hid (refHash_any size 7 _ _ _ (by simp) (by decide) (by decide) hL (numI_all (numI_all (numI_all (fun p hp => by
            obtain rfl := List.mem_singleton.1 hp
            exact hXB) _) _) _))
          rw [← HSN.out] at HH
          clear hL hsx hn1 hn2 hn3 hXB
          go_wp2_with fail
          refine HH.out.mono ?_
          rintro e w5 ⟨y, rfl, hy, hb5⟩
          have hbr := hbA.trans (hb5.mono hbA.size)
          clear hb5 hbA HH
          go_wp2
          go_roundw
          case rel => exact ⟨j + 1, q + 1, _, rfl, by go_num, by have := hq.out; show q + 1 = f0 + ((j + 1 : Nat) : Int); omega, by omega, by omega, by have := hq.out; have := HM.out; have := HF.out; omega, hy, hbr⟩
          case measure => simp [intOf]; omega
        · go_wp2
          go_ret
          refine ⟨_, rfl, ?_, hbr⟩
          have : j = m := by have := hq.out; have := HM.out; have := HF.out; omega
          rw [← this]; exact hsx
      · by_cases hto : q < 3
        · go_wp2_with fail
          refine (refNumber_any idx wr hx0 hx1).mono ?_
          rintro e w2 ⟨n1, rfl, hn1, hb2⟩
          have hsx := hsx.below hb2 (Nat.le_refl _)
          have hbr := hbr.trans (hb2.mono hbr.size)
          clear hb2
          go_wp2_with fail
          refine (refNumber_any i w2 hi0 hi1).mono ?_
          rintro e w3 ⟨n2, rfl, hn2, hb3⟩
          have hsx := hsx.below hb3 (Nat.le_refl _)
          have hn1 := hn1.below hb3 (Nat.le_refl _)
          have hbr := hbr.trans (hb3.mono hbr.size)
          clear hb3
          go_wp2_with fail
          refine (refNumber_any q w3 (by omega) (by omega)).mono ?_
          rintro e w4 ⟨n3, rfl, hn3, hb4⟩
          have hsx := hsx.below hb4 (Nat.le_refl _)
          have hn1 := hn1.below hb4 (Nat.le_refl _)
          have hn2 := hn2.below hb4 (Nat.le_refl _)
          have hbr := hbr.trans (hb4.mono hbr.size)
          clear hb4
          obtain ⟨a1, l1, c1, rfl⟩ := hn1.val
          obtain ⟨a2, l2, c2, rfl⟩ := hn2.val
          obtain ⟨a3, l3, c3, rfl⟩ := hn3.val
          obtain ⟨a4, l4, c4, rfl⟩ := hsx.val
          have hL := Sls.litA _ 22 (show SlAll w4 [.slice a1 l1 c1, .slice a2 l2 c2, .slice a3 l3 c3, .slice a4 l4 c4] [numI idx, numI i, numI q, chI size idx i f0 bs j] from ⟨hn1, hn2, hn3, hsx, trivial⟩) (by simp [maxLen])
          have hbA := hbr.alloc hbr.size (.cells #[.slice a1 l1 c1, .slice a2 l2 c2, .slice a3 l3 c3, .slice a4 l4 c4] 22)
          have HH := Lib.hid (refHash_any size 7 _ _ _ (by simp) (by decide) (by decide) hL (numI_all (numI_all (numI_all (fun p hp => by
            obtain rfl := List.mem_singleton.1 hp
            exact hXB) _) _) _))
          rw [← HSN.out] at HH
          clear hL hsx hn1 hn2 hn3 hXB
          go_wp2_with fail
          refine HH.out.mono ?_
          rintro e w5 ⟨y, rfl, hy, hb5⟩
          have hbr := hbA.trans (hb5.mono hbA.size)
          clear hb5 hbA HH
          go_wp2
          go_roundw
          case rel => exact ⟨j + 1, q + 1, _, rfl, by go_num, by have := hq.out; show q + 1 = f0 + ((j + 1 : Nat) : Int); omega, by omega, by omega, by have := hq.out; have := HM.out; have := HF.out; omega, hy, hbr⟩
          case measure => simp [intOf]; omega
        · go_wp2
          go_ret
          refine ⟨_, rfl, ?_, hbr⟩
          have : j = m := by have := hq.out; have := HM.out; have := HF.out; omega
          rw [← this]; exact hsx


theorem chainN_any (size : Int) (v : Value) (bs : List Int) (idx i : Int) (fr te : Nat) (w : World) (hx0 : -9223372036854775808 ≤ idx) (hx1 : idx ≤ 9223372036854775807) (hi0 : -9223372036854775808 ≤ i) (hi1 : i ≤ 9223372036854775807) (h1 : fr ≤ te) (h2 : te ≤ 3)
    (hn : bs.length ≤ 140737488351232) (hB : IsB bs) (hs : Sl w v (bs.map (Value.int .u8))) (ht : Tabs w) :
    Calls Tryd.prog 122 #[.int .i64 size, v, .int .i64 idx, .int .i64 i, .int .i64 fr, .int .i64 te] w fun e w' => ∃ x, e = .returned x ∧ Sl w' x ((chI size idx i fr bs (te - fr)).map (Value.int .u8)) ∧ Below w.heap.size w w' := by
  have h := chain_any size v bs idx i fr te w hx0 hx1 hi0 hi1 (by omega) hn hB hs ht
  rw [show max (fr : Int) 0 = fr by omega, show (min (te : Int) 3 - fr).toNat = te - fr by omega] at h
  exact h


theorem refChainN_any (size : Int) (v : Value) (bs : List Int) (idx i : Int) (fr te : Nat) (w : World) (hx0 : -9223372036854775808 ≤ idx) (hx1 : idx ≤ 9223372036854775807) (hi0 : -9223372036854775808 ≤ i) (hi1 : i ≤ 9223372036854775807) (h1 : fr ≤ te) (h2 : te ≤ 3)
    (hn : bs.length ≤ 140737488351232) (hB : IsB bs) (hs : Sl w v (bs.map (Value.int .u8))) :
    Calls Tryd.prog 114 #[.int .i64 size, v, .int .i64 idx, .int .i64 i, .int .i64 fr, .int .i64 te] w fun e w' => ∃ x, e = .returned x ∧ Sl w' x ((chI size idx i fr bs (te - fr)).map (Value.int .u8)) ∧ Below w.heap.size w w' := by
  have h := refChain_any size v bs idx i fr te w hx0 hx1 hi0 hi1 (by omega) hn hB hs
  rw [show max (fr : Int) 0 = fr by omega, show (min (te : Int) 3 - fr).toNat = te - fr by omega] at h
  exact h


end Go.Proofs.YtililoojjfcfgaaDoor

namespace Go.Proofs.YtililoojjfcfgaaDoor
open Go.RowKit
set_option linter.unusedVariables false

def canB (size : Int) (n : Nat) (idx : Int) : Bool := decide (1 ≤ size ∧ size ≤ 32 ∧ n ≤ 64 ∧ 0 ≤ idx ∧ idx < 256)
/-- A chain's beginning. -/
def secI (size : Int) (seed : List Int) (idx i : Int) : List Int := if canB size seed.length idx then hashT size 6 [seed, numI idx, numI i] else []

theorem secI_isB (size : Int) (seed : List Int) (idx i : Int) : IsB (secI size seed idx i) := by
  unfold secI; split
  · exact hashT_isB' _ _ _
  · intro x hx; cases hx
theorem secI_len (size : Int) (seed : List Int) (idx i : Int) : (secI size seed idx i).length ≤ 32 := by
  unfold secI; split
  · exact hashT_len _ _ _
  · simp

theorem chains_any (n : Nat) (w : World) (h : n ≤ 1000) : Calls Tryd.prog 134 #[.int .i64 n] w fun e w' => e = .returned (.int .i64 (4 * n + 5 : Nat)) ∧ w = w' := by
  have hI : (n : Int) ≤ 1000 := by omega
  go_enter Tryd.func134, Tryd.ntmps134
  go_wp2
  go_ret
  exact ⟨ret_int (by omega), rfl⟩

theorem can_any (size : Int) (v : Value) (bs : List Int) (idx : Int) (w : World) (hs : Sl w v (bs.map (Value.int .u8))) :
    Calls Tryd.prog 121 #[.int .i64 size, v, .int .i64 idx] w fun e w' => e = .returned (.bool (canB size bs.length idx)) ∧ w = w' := by
  obtain ⟨b, hb⟩ : ∃ b, b = canB size bs.length idx := ⟨_, rfl⟩
  rw [← hb]
  have HB := Lib.hid hb
  clear hb
  obtain ⟨a, cap, rfl, hc, hm⟩ := hs.shape
  rw [List.length_map] at *
  by_cases h0 : 1 ≤ size
  ·
    by_cases h1 : size ≤ 32
    ·
      by_cases h2 : bs.length ≤ 64
      ·
        by_cases h3 : 0 ≤ idx
        ·
          by_cases h4 : idx < 256
          ·
            go_enter Tryd.func121, Tryd.ntmps121
            go_wp2
            go_ret
            exact ⟨ret_bool (by rw [HB.out]; unfold canB; first | exact (decide_eq_true (by omega)).symm | exact (decide_eq_false (by omega)).symm), rfl⟩
          ·
            go_enter Tryd.func121, Tryd.ntmps121
            go_wp2
            go_ret
            exact ⟨ret_bool (by rw [HB.out]; unfold canB; first | exact (decide_eq_true (by omega)).symm | exact (decide_eq_false (by omega)).symm), rfl⟩
        ·
          go_enter Tryd.func121, Tryd.ntmps121
          go_wp2
          go_ret
          exact ⟨ret_bool (by rw [HB.out]; unfold canB; first | exact (decide_eq_true (by omega)).symm | exact (decide_eq_false (by omega)).symm), rfl⟩
      ·
        go_enter Tryd.func121, Tryd.ntmps121
        go_wp2
        go_ret
        exact ⟨ret_bool (by rw [HB.out]; unfold canB; first | exact (decide_eq_true (by omega)).symm | exact (decide_eq_false (by omega)).symm), rfl⟩
    ·
      go_enter Tryd.func121, Tryd.ntmps121
      go_wp2
      go_ret
      exact ⟨ret_bool (by rw [HB.out]; unfold canB; first | exact (decide_eq_true (by omega)).symm | exact (decide_eq_false (by omega)).symm), rfl⟩
  ·
    go_enter Tryd.func121, Tryd.ntmps121
    go_wp2
    go_ret
    exact ⟨ret_bool (by rw [HB.out]; unfold canB; first | exact (decide_eq_true (by omega)).symm | exact (decide_eq_false (by omega)).symm), rfl⟩


theorem refCan_any (size : Int) (v : Value) (bs : List Int) (idx : Int) (w : World) (hs : Sl w v (bs.map (Value.int .u8))) :
    Calls Tryd.prog 70 #[.int .i64 size, v, .int .i64 idx] w fun e w' => e = .returned (.bool (canB size bs.length idx)) ∧ w = w' := by
  obtain ⟨b, hb⟩ : ∃ b, b = canB size bs.length idx := ⟨_, rfl⟩
  rw [← hb]
  have HB := Lib.hid hb
  clear hb
  obtain ⟨a, cap, rfl, hc, hm⟩ := hs.shape
  rw [List.length_map] at *
  by_cases h0 : 1 ≤ size
  ·
    by_cases h1 : size ≤ 32
    ·
      by_cases h2 : bs.length ≤ 64
      ·
        by_cases h3 : 0 ≤ idx
        ·
          by_cases h4 : idx < 256
          ·
            go_enter Tryd.func70, Tryd.ntmps70
            go_wp2
            go_ret
            exact ⟨ret_bool (by rw [HB.out]; unfold canB; first | exact (decide_eq_true (by omega)).symm | exact (decide_eq_false (by omega)).symm), rfl⟩
          ·
            go_enter Tryd.func70, Tryd.ntmps70
            go_wp2
            go_ret
            exact ⟨ret_bool (by rw [HB.out]; unfold canB; first | exact (decide_eq_true (by omega)).symm | exact (decide_eq_false (by omega)).symm), rfl⟩
        ·
          go_enter Tryd.func70, Tryd.ntmps70
          go_wp2
          go_ret
          exact ⟨ret_bool (by rw [HB.out]; unfold canB; first | exact (decide_eq_true (by omega)).symm | exact (decide_eq_false (by omega)).symm), rfl⟩
      ·
        go_enter Tryd.func70, Tryd.ntmps70
        go_wp2
        go_ret
        exact ⟨ret_bool (by rw [HB.out]; unfold canB; first | exact (decide_eq_true (by omega)).symm | exact (decide_eq_false (by omega)).symm), rfl⟩
    ·
      go_enter Tryd.func70, Tryd.ntmps70
      go_wp2
      go_ret
      exact ⟨ret_bool (by rw [HB.out]; unfold canB; first | exact (decide_eq_true (by omega)).symm | exact (decide_eq_false (by omega)).symm), rfl⟩
  ·
    go_enter Tryd.func70, Tryd.ntmps70
    go_wp2
    go_ret
    exact ⟨ret_bool (by rw [HB.out]; unfold canB; first | exact (decide_eq_true (by omega)).symm | exact (decide_eq_false (by omega)).symm), rfl⟩


set_option maxHeartbeats 400000 in
theorem secret_any (size : Int) (v : Value) (bs : List Int) (idx i : Int) (w : World) (hx0 : -9223372036854775808 ≤ idx) (hx1 : idx ≤ 9223372036854775807) (hi0 : -9223372036854775808 ≤ i) (hi1 : i ≤ 9223372036854775807) (hB : IsB bs) (hs : Sl w v (bs.map (Value.int .u8))) (ht : Tabs w) :
    Calls Tryd.prog 123 #[.int .i64 size, v, .int .i64 idx, .int .i64 i] w fun e w' => ∃ x, e = .returned x ∧ Sl w' x ((secI size bs idx i).map (Value.int .u8)) ∧ Below w.heap.size w w' := by
  have HC := Lib.hid (can_any size v bs idx w hs)
  obtain ⟨va, vn, vc, rfl⟩ := hs.val
  have HS := Lib.hid (show secI size bs idx i = if canB size bs.length idx then hashT size 6 [bs, numI idx, numI i] else [] from rfl)
  generalize canB size bs.length idx = cb at *
  cases cb with
  | false =>
    go_enter Tryd.func123, Tryd.ntmps123
    go_wp2_with fail
    refine HC.out.mono ?_
    rintro e w1 ⟨rfl, rfl⟩
    go_wp2
    go_ret
    exact ⟨_, rfl, by rw [HS.out, if_neg (by decide)]; exact Sl.nil _, Below.refl _ _⟩
  | true =>
    rw [if_pos rfl] at HS
    go_enter Tryd.func123, Tryd.ntmps123
    go_wp2_with fail
    refine HC.out.mono ?_
    rintro e w1 ⟨rfl, rfl⟩
    go_wp2_with fail
    refine (number_any idx w hx0 hx1).mono ?_
    rintro e w2 ⟨n1, rfl, hn1, hb2⟩
    have hs := hs.below hb2 (Nat.le_refl _)
    have ht := ht.below hb2
    go_wp2_with fail
    refine (number_any i w2 hi0 hi1).mono ?_
    rintro e w3 ⟨n2, rfl, hn2, hb3⟩
    have hs := hs.below hb3 (Nat.le_refl _)
    have hn1 := hn1.below hb3 (Nat.le_refl _)
    have ht := ht.below hb3
    have hb3 := below_trans2 hb2 hb3
    clear hb2
    obtain ⟨a1, l1, c1, rfl⟩ := hn1.val
    obtain ⟨a2, l2, c2, rfl⟩ := hn2.val
    have hL := Sls.litA _ 22 (show SlAll w3 [.slice va vn vc, .slice a1 l1 c1, .slice a2 l2 c2] [bs, numI idx, numI i] from ⟨hs, hn1, hn2, trivial⟩) (by simp [maxLen])
    have hbA := hb3.alloc hb3.size (.cells #[.slice va vn vc, .slice a1 l1 c1, .slice a2 l2 c2] 22)
    have htA := ht.below ((Below.refl _ _).alloc (Nat.le_refl _) (.cells #[.slice va vn vc, .slice a1 l1 c1, .slice a2 l2 c2] 22))
    have HH := Lib.hid (hash_any size 6 _ _ _ (by simp) (by decide) (by decide) hL (fun p hp => by
      simp only [List.mem_cons, List.not_mem_nil, or_false] at hp
      rcases hp with rfl | rfl | rfl
      · exact hB
      · exact numI_isB _
      · exact numI_isB _) htA)
    rw [← HS.out] at HH
    clear hL htA ht hs hn1 hn2 hb3
    go_wp2_with fail
    refine HH.out.mono ?_
    rintro e w5 ⟨y, rfl, hy, hb5⟩
    have hbr := hbA.trans (hb5.mono hbA.size)
    go_wp2
    go_ret
    exact ⟨_, rfl, hy, hbr⟩


set_option maxHeartbeats 400000 in
theorem refSecret_any (size : Int) (v : Value) (bs : List Int) (idx i : Int) (w : World) (hx0 : -9223372036854775808 ≤ idx) (hx1 : idx ≤ 9223372036854775807) (hi0 : -9223372036854775808 ≤ i) (hi1 : i ≤ 9223372036854775807) (hB : IsB bs) (hs : Sl w v (bs.map (Value.int .u8)))  :
    Calls Tryd.prog 115 #[.int .i64 size, v, .int .i64 idx, .int .i64 i] w fun e w' => ∃ x, e = .returned x ∧ Sl w' x ((secI size bs idx i).map (Value.int .u8)) ∧ Below w.heap.size w w' := by
  have HC := Lib.hid (refCan_any size v bs idx w hs)
  obtain ⟨va, vn, vc, rfl⟩ := hs.val
  have HS := Lib.hid (show secI size bs idx i = if canB size bs.length idx then hashT size 6 [bs, numI idx, numI i] else [] from rfl)
  generalize canB size bs.length idx = cb at *
  cases cb with
  | false =>
    go_enter Tryd.func115, Tryd.ntmps115
    go_wp2_with fail
    refine HC.out.mono ?_
    rintro e w1 ⟨rfl, rfl⟩
    go_wp2
    go_ret
    exact ⟨_, rfl, by rw [HS.out, if_neg (by decide)]; exact Sl.nil _, Below.refl _ _⟩
  | true =>
    rw [if_pos rfl] at HS
    go_enter Tryd.func115, Tryd.ntmps115
    go_wp2_with fail
    refine HC.out.mono ?_
    rintro e w1 ⟨rfl, rfl⟩
    go_wp2_with fail
    refine (refNumber_any idx w hx0 hx1).mono ?_
    rintro e w2 ⟨n1, rfl, hn1, hb2⟩
    have hs := hs.below hb2 (Nat.le_refl _)
    
    go_wp2_with fail
    refine (refNumber_any i w2 hi0 hi1).mono ?_
    rintro e w3 ⟨n2, rfl, hn2, hb3⟩
    have hs := hs.below hb3 (Nat.le_refl _)
    have hn1 := hn1.below hb3 (Nat.le_refl _)
    
    have hb3 := below_trans2 hb2 hb3
    clear hb2
    obtain ⟨a1, l1, c1, rfl⟩ := hn1.val
    obtain ⟨a2, l2, c2, rfl⟩ := hn2.val
    have hL := Sls.litA _ 22 (show SlAll w3 [.slice va vn vc, .slice a1 l1 c1, .slice a2 l2 c2] [bs, numI idx, numI i] from ⟨hs, hn1, hn2, trivial⟩) (by simp [maxLen])
    have hbA := hb3.alloc hb3.size (.cells #[.slice va vn vc, .slice a1 l1 c1, .slice a2 l2 c2] 22)
    
    have HH := Lib.hid (refHash_any size 6 _ _ _ (by simp) (by decide) (by decide) hL (fun p hp => by
      simp only [List.mem_cons, List.not_mem_nil, or_false] at hp
      rcases hp with rfl | rfl | rfl
      · exact hB
      · exact numI_isB _
      · exact numI_isB _) )
    rw [← HS.out] at HH
    clear hL  hs hn1 hn2 hb3
    go_wp2_with fail
    refine HH.out.mono ?_
    rintro e w5 ⟨y, rfl, hy, hb5⟩
    have hbr := hbA.trans (hb5.mono hbA.size)
    go_wp2
    go_ret
    exact ⟨_, rfl, hy, hbr⟩


set_option maxHeartbeats 400000 in
theorem refKey0_any (size idx : Int) (v : Value) (bs : List Int) (w : World) (hx0 : -9223372036854775808 ≤ idx) (hx1 : idx ≤ 9223372036854775807) (hB : IsB bs) (hs : Sl w v (bs.map (Value.int .u8))) :
    Calls Tryd.prog 116 #[.int .i64 size, .int .i64 idx, v] w fun e w' => ∃ x, e = .returned x ∧ Sl w' x ((hashT size 8 [numI idx, bs]).map (Value.int .u8)) ∧ Below w.heap.size w w' := by
  obtain ⟨va, vn, vc, rfl⟩ := hs.val
  go_enter Tryd.func116, Tryd.ntmps116
  go_wp2_with fail
  refine (refNumber_any idx w hx0 hx1).mono ?_
  rintro e w2 ⟨n1, rfl, hn1, hb2⟩
  have hs := hs.below hb2 (Nat.le_refl _)
  obtain ⟨a1, l1, c1, rfl⟩ := hn1.val
  have hL := Sls.litA _ 22 (show SlAll w2 [.slice a1 l1 c1, .slice va vn vc] [numI idx, bs] from ⟨hn1, hs, trivial⟩) (by simp [maxLen])
  have hbA := hb2.alloc hb2.size (.cells #[.slice a1 l1 c1, .slice va vn vc] 22)
  have HH := Lib.hid (refHash_any size 8 _ _ _ (by simp) (by decide) (by decide) hL (fun p hp => by
    simp only [List.mem_cons, List.not_mem_nil, or_false] at hp
    rcases hp with rfl | rfl
    · exact numI_isB _
    · exact hB))
  clear hL hs hn1 hb2
  go_wp2_with fail
  refine HH.out.mono ?_
  rintro e w5 ⟨y, rfl, hy, hb5⟩
  have hbr := hbA.trans (hb5.mono hbA.size)
  go_wp2
  go_ret
  exact ⟨_, rfl, hy, hbr⟩


end Go.Proofs.YtililoojjfcfgaaDoor

namespace Go.Proofs.YtililoojjfcfgaaDoor
open Go.RowKit
set_option linter.unusedVariables false

def Blk (w : World) (g : Nat) (t : TypeId) (cs : Array Value) : Prop := w.heap[g]? = some (.cells cs t (0, 0))

section
variable {w w' : World} {g : Nat} {t : TypeId} {cs : Array Value}
theorem Blk.lt (h : Blk w g t cs) : g < w.heap.size := by
  rcases Nat.lt_or_ge g w.heap.size with hlt | hge
  · exact hlt
  · unfold Blk at h; rw [Array.getElem?_eq_none hge] at h; cases h
theorem Blk.cell (h : Blk w g t cs) (i : Nat) : w.cell? ⟨g, i, none⟩ = cs[i]? := cell_of_row w g i cs t (0, 0) h
theorem Blk.frozen (h : Blk w g t cs) (i : Nat) : w.frozen? ⟨g, i, none⟩ = false := by
  unfold Blk at h
  simp [World.frozen?, h]
theorem Blk.new (w : World) (t : TypeId) (cs : Array Value) : Blk (w.alloc (.cells cs t)) w.heap.size t cs := heap_alloc_new w _
theorem Blk.drew (h : Blk w g t cs) : Blk w.drew g t cs := h
theorem Blk.drewN (h : Blk w g t cs) (n : Nat) : Blk (w.drewN n) g t cs := h
theorem Blk.alloc (h : Blk w g t cs) (o : Obj) : Blk (w.alloc o) g t cs := (Below.heap_alloc w o g h.lt).trans h
theorem Blk.set_ (h : Blk w g t cs) (i : Nat) (u : Value) : Blk (w.setCell ⟨g, i, none⟩ u) g t (cs.setIfInBounds i u) := by
  unfold Blk at h ⊢
  simp [World.setCell, Array.getElem?_modify, h]
theorem Blk.far (h : Blk w g t cs) {p : Addr} (hp : g ≠ p.block) (u : Value) : Blk (w.setCell p u) g t cs := (Below.heap_setCell w p u g hp).trans h
theorem Blk.below {B : Nat} (h : Blk w g t cs) (hb : Below B w w') (hg : g < B) : Blk w' g t cs := (hb.block g hg).trans h
theorem Blk.belowS (h : Blk w g t cs) (hb : Below w.heap.size w w') : Blk w' g t cs := (hb.block g h.lt).trans h
theorem Blk.grown {row : Option Nat} (h : Blk w g t cs) (hb : w.grownBy w' row) (hg : some g ≠ row) : Blk w' g t cs := (hb.block g h.lt hg).trans h
theorem Blk.ne_ {g' : Nat} {t' : TypeId} {cs' : Array Value} (h : Blk w g t cs) (h' : Blk w g' t' cs') (hne : t ≠ t') : g ≠ g' := by
  rintro rfl
  unfold Blk at h h'
  rw [h] at h'
  injection h' with h'
  injection h' with _ ht
  exact hne ht
theorem own_blk_ne {base : Nat} {e : TypeId} {size n : Nat} {v : Value} {xs : List Value} (h : w.ownsRow base e size v n xs) (hg : Blk w g t cs) (hne : e ≠ t) : v.ownBlock ≠ some g := by
  rcases h.2 with ⟨rfl, _⟩ | ⟨g', cap, cur, rfl, _, hh, _⟩
  · simp [Value.ownBlock]
  · intro he
    have : g' = g := by simpa [Value.ownBlock] using he
    subst this
    exact Blk.ne_ (t := e) hh hg hne rfl
end

theorem only_drewN {a w : World} {row : Option Nat} (h : a.grownBy w row) (n : Nat) : a.grownBy (w.drewN n) row := ⟨h.os, h.tape, h.output, h.size, h.block⟩
theorem only_drew {a w : World} {row : Option Nat} (h : a.grownBy w row) : a.grownBy w.drew row := ⟨h.os, h.tape, h.output, h.size, h.block⟩
theorem only_alloc {a w : World} {row : Option Nat} (h : a.grownBy w row) (o : Obj) : a.grownBy (w.alloc o) row :=
  ⟨h.os, h.tape, h.output, Nat.le_trans h.size (by simp), fun i hi hne => (Below.heap_alloc w o i (Nat.lt_of_lt_of_le hi h.size)).trans (h.block i hi hne)⟩
theorem only_setCell {a w : World} {g : Nat} (h : a.grownBy w (some g)) {p : Addr} (hp : p.block = g ∨ a.heap.size ≤ p.block) (u : Value) : a.grownBy (w.setCell p u) (some g) :=
  ⟨h.os, h.tape, h.output, by simpa [World.setCell] using h.size, fun i hi hne => (Below.heap_setCell w p u i (by
    rintro rfl
    rcases hp with hp | hp
    · exact hne (by rw [hp])
    · omega)).trans (h.block i hi hne)⟩
theorem only_of_below {a w : World} (h : Below a.heap.size a w) (row : Option Nat) : a.grownBy w row := ⟨h.os, h.tape, h.output, h.size, fun i hi _ => h.block i hi⟩
/-- Only block g has turned, then nothing of what was there. -/
theorem only_below {a w w1 : World} {row : Option Nat} (h : a.grownBy w row) (hb : Below w.heap.size w w1) : a.grownBy w1 row :=
  ⟨hb.os.trans h.os, hb.tape.trans h.tape, hb.output.trans h.output, Nat.le_trans h.size hb.size, fun i hi hne => (hb.block i (Nat.lt_of_lt_of_le hi h.size)).trans (h.block i hi hne)⟩
/-- A block that is new to an elder world has turned. -/
theorem below_of_only {B : Nat} {a w w1 : World} {g : Nat} (h : Below B a w) (hg : w.grownBy w1 (some g)) (hB : B ≤ g) (hs : B ≤ w.heap.size) : Below B a w1 :=
  h.grown hg hs (fun k hk => by cases hk; exact hB)
theorem below_drewN0 {B : Nat} {a w : World} (h : Below B a w) (n : Nat) : Below B a (w.drewN n) := ⟨h.os, h.tape, h.output, h.size, h.block⟩

end Go.Proofs.YtililoojjfcfgaaDoor

namespace Go.Proofs.YtililoojjfcfgaaDoor
open Go.RowKit
set_option linter.unusedVariables false

def notB (u : Value) : Prop := ∀ n, u ≠ .int .u8 n

theorem notB_slice (a : Option Addr) (n c : Nat) : notB (.slice a n c) := fun _ h => by cases h

def OwnK (w : World) (base : Nat) (e : TypeId) (size : Nat) (v : Value) (n : Nat) (xs : List Value) : Prop :=
  w.ownsRow base e size v n xs ∧ ∀ g, v.ownBlock = some g → ∃ cur, w.heap[g]? = some (.cells cur e (0, 0)) ∧ ∀ c ∈ cur.toList, notB c

theorem OwnK.nil (w : World) (base : Nat) (e : TypeId) (size : Nat) : OwnK w base e size (.slice none 0 0) 0 [] := ⟨World.ownsRow_nil _ _ _ _, fun g h => by simp [Value.ownBlock] at h⟩

theorem OwnK.below {w w' : World} {base : Nat} {e : TypeId} {size : Nat} {v : Value} {n : Nat} {xs : List Value} (h : OwnK w base e size v n xs) {B : Nat} (hb : Below B w w') (hB : w.heap.size ≤ B) : OwnK w' base e size v n xs :=
  ⟨ownsRow_below h.1 hb hB, fun g hg => by
    obtain ⟨cur, h1, h2⟩ := h.2 g hg
    exact ⟨cur, (hb.block g (Nat.lt_of_lt_of_le (h.1.lt g hg).2 hB)).trans h1, h2⟩⟩

theorem zeroCells_notB {z : Array Value} (hz : ∀ c ∈ z.toList, notB c) (n : Nat) : ∀ c ∈ (Builtin.zeroCells z n).toList, notB c := by
  intro c hc
  simp only [Builtin.zeroCells, Array.toList_map, List.mem_map] at hc
  obtain ⟨i, hi, rfl⟩ := hc
  have hi' : i < n * z.size := by simpa using hi
  have hs : 0 < z.size := by
    rcases Nat.eq_zero_or_pos z.size with h0 | h0
    · rw [h0] at hi'; omega
    · exact h0
  have hlt : i % z.size < z.size := Nat.mod_lt _ hs
  rw [getElem!_pos z (i % z.size) hlt]
  exact hz _ (by simp)

theorem run_append_ownK {P : Program} (w : World) (base : Nat) (t ty e : TypeId) (i : TypeInfo) (z : Value) (size bytes : Nat) (ht : P.underlying t = some (.slice e)) (hi : P.info? e = some i) (hz : i.zero = some z)
    (hsize : i.size = size) (hby : i.bytes = bytes) (hzs : z.cells.size = size) (hsz : 0 < size) (hzK : ∀ c ∈ z.cells.toList, notB c)
    (v : Value) (n : Nat) (xs : List Value) (hownK : OwnK w base e size v n xs)
    (a : Addr) (m c : Nat) (news : List Value) (hl : news.length = m * size) (hnews : ∀ j u, news[j]? = some u → w.cell? (a.add j) = some u) (h1 : ∀ u ∈ news, u.oneCell' = true) (hK : ∀ u ∈ news, notB u)
    (h63 : n + m ≤ maxLen) (hbytes : (n + m) * bytes ≤ 140737488355328) (hbase : base ≤ w.heap.size) :
    ∃ v' w', (Builtin.append_ #[t, t] ty #[v, .slice (some a) m c]).run P w = .ok v' w' ∧ OwnK w' base e size v' (n + m) (xs ++ news) ∧ w.grownBy w' v.ownBlock := by
  have hown := hownK.1
  have hxK : ∀ u ∈ xs, notB u := by
    intro u hu
    rcases hown.2 with ⟨rfl, rfl⟩ | ⟨g, cap, cur, rfl, hbg, hg, hnc, hcm, hcs, htake⟩
    · have hx : xs = [] := List.eq_nil_of_length_eq_zero (by simpa using hown.1)
      subst hx; cases hu
    · obtain ⟨cur', h2, h3⟩ := hownK.2 g rfl
      rw [hg] at h2
      cases h2
      rw [← htake] at hu
      exact h3 u (List.mem_of_mem_take hu)
  subst hsize
  subst hby
  have hsmall : n + m ≤ 9223372036854775807 := by simp only [maxLen] at h63; omega
  have hlen : (xs ++ news).length = (n + m) * i.size := by rw [List.length_append, hown.1, hl, Nat.add_mul]
  have grown : ∀ (old : Nat), old < n + m → ∀ (row : Option Nat),
      OwnK (w.drew.alloc (.cells (xs.toArray ++ news.toArray ++ Builtin.zeroCells z.cells (grownCap w (n + m) old e - (n + m))) e)) base e i.size
        (.slice (some ⟨w.heap.size, 0, none⟩) (n + m) (grownCap w (n + m) old e)) (n + m) (xs ++ news) ∧
      w.grownBy (w.drew.alloc (.cells (xs.toArray ++ news.toArray ++ Builtin.zeroCells z.cells (grownCap w (n + m) old e - (n + m))) e)) row := by
    intro old ho row
    have hge := grownCap_ge w (n + m) old e
    have hcm : grownCap w (n + m) old e ≤ maxLen := grownCap_le_maxLen w (n + m) old e h63
    refine ⟨⟨⟨hlen, .inr ⟨w.heap.size, _, _, rfl, hbase, heap_alloc_new w.drew _, hge, hcm, ?_, ?_⟩⟩, ?_⟩, ⟨rfl, rfl, rfl, by simp, fun k hk _ => Below.heap_alloc w.drew _ k hk⟩⟩
    · simp only [Array.size_append, List.size_toArray, size_zeroCells, hzs, hown.1, hl, ← Nat.add_mul]
      congr 1
      omega
    · simp only [Array.toList_append, List.append_assoc]
      rw [← List.append_assoc, ← hlen]
      exact List.take_left
    · intro g hg
      have : w.heap.size = g := by simpa [Value.ownBlock] using hg
      subst this
      refine ⟨_, heap_alloc_new w.drew _, fun u hu => ?_⟩
      simp only [Array.toList_append, List.mem_append] at hu
      rcases hu with (hu | hu) | hu
      · exact hxK u hu
      · exact hK u hu
      · exact zeroCells_notB hzK _ u hu
  rcases hown.2 with ⟨rfl, rfl⟩ | ⟨g, cap, cur, rfl, hbg, hg, hnc, hcm, hcs, htake⟩
  · have hx : xs = [] := List.eq_nil_of_length_eq_zero (by simpa using hown.1)
    subst hx
    by_cases hm : m = 0
    · subst hm
      have hn : news = [] := List.eq_nil_of_length_eq_zero (by simpa using hl)
      subst hn
      refine ⟨.slice none 0 0, w, ?_, OwnK.nil w base e i.size, ⟨rfl, rfl, rfl, Nat.le_refl _, fun _ _ _ => rfl⟩⟩
      simp [Builtin.append_, run_underlying ht, sizeOf, typeInfo, hi, Builtin.lenOf, Builtin.firstCells, loadCells, loadCellsFrom]
    · have hr := run_append_nil (P := P) w t ty e i z ht hi hz a m c news hl hnews (by omega) (by omega) (by have hb := hbytes; simp only [Nat.zero_add] at hb; omega)
      have hgr := grown 0 (by omega) (Value.ownBlock (.slice none 0 0))
      simp only [Nat.zero_add, List.nil_append, Array.empty_append] at hgr ⊢
      exact ⟨_, _, hr, hgr.1, hgr.2⟩
  · by_cases hroom : n + m ≤ cap
    · have hfit : n * i.size + news.length ≤ cur.size := by rw [hl, hcs, ← Nat.add_mul]; exact Nat.mul_le_mul_right _ hroom
      have hr := run_append_room (P := P) w t ty e i ht hi g n cap cur hg a m c news hl hnews h1 hroom hfit
      refine ⟨_, _, hr, ⟨⟨hlen, .inr ⟨g, cap, _, rfl, hbg, setRow_heap w g cur _ e _ hg, hroom, hcm, ?_, ?_⟩⟩, ?_⟩, ⟨rfl, rfl, rfl, by simp, fun k _ hk => setRow_other w g k _ (fun e => hk (by simp [Value.ownBlock, e]))⟩⟩
      · simp only [List.size_toArray, List.length_append, List.length_take, List.length_drop, Array.length_toList]
        omega
      · rw [htake, ← hlen]
        exact List.take_left
      · intro g' hg'
        have : g = g' := by simpa [Value.ownBlock] using hg'
        subst this
        obtain ⟨cur', h2, h3⟩ := hownK.2 g rfl
        rw [hg] at h2
        cases h2
        refine ⟨_, setRow_heap w g cur _ e _ hg, fun u hu => ?_⟩
        simp only [List.mem_append] at hu
        rcases hu with hu | hu
        · rcases hu with hu | hu
          · exact h3 u (List.mem_of_mem_take hu)
          · exact hK u hu
        · exact h3 u (List.mem_of_mem_drop hu)
    · have holds : ∀ j u, xs[j]? = some u → w.cell? ((⟨g, 0, none⟩ : Addr).add j) = some u := hown.cells (g := g) rfl
      have hr := run_append_grow (P := P) w t ty e i z ht hi hz ⟨g, 0, none⟩ n cap xs hown.1 holds a m c news hl hnews (by omega) (by omega) (growslice_fits (by omega) hbytes)
      have hgr := grown cap (by omega) (Value.ownBlock (.slice (some ⟨g, 0, none⟩) n cap))
      exact ⟨_, _, hr, hgr.1, hgr.2⟩

/-- A text is as it was behind an append to a row without bytes. -/
theorem Sl.keepK {w w' : World} {v : Value} {bs : List Int} (hs : Sl w v (bs.map (Value.int .u8))) {base : Nat} {e : TypeId} {size : Nat} {r : Value} {n : Nat} {xs : List Value} (hown : OwnK w base e size r n xs) (hg : w.grownBy w' r.ownBlock) : Sl w' v (bs.map (Value.int .u8)) := by
  obtain ⟨a, cap, rfl, h1, h2, h3⟩ := hs
  refine ⟨a, cap, rfl, h1, h2, fun hp => ?_⟩
  obtain ⟨b, off, rfl, hlt, hc⟩ := h3 hp
  have hne : some b ≠ r.ownBlock := by
    intro he
    obtain ⟨cur, hcur, hK⟩ := hown.2 b he.symm
    have hl : 0 < bs.length := by simpa using hp
    have h0 := hc 0 (.int .u8 bs[0]) (by rw [List.getElem?_map, List.getElem?_eq_getElem hl]; rfl)
    rw [cell_of_row w b (off + 0) cur e (0, 0) hcur] at h0
    exact hK _ (by have := Array.mem_of_getElem? h0; simpa using this) _ rfl
  refine ⟨b, off, rfl, Nat.lt_of_lt_of_le hlt hg.size, fun j u hu => ?_⟩
  rw [hg.cell_far ⟨b, off + j, none⟩ hlt hne]
  exact hc j u hu

theorem SlAll.keepK {w w' : World} {base : Nat} {e : TypeId} {size : Nat} {r : Value} {n : Nat} {xs : List Value} (hown : OwnK w base e size r n xs) (hg : w.grownBy w' r.ownBlock) : ∀ {us : List Value} {ps : List (List Int)}, SlAll w us ps → SlAll w' us ps
  | [], [], _ => trivial
  | [], _ :: _, h => h.elim
  | _ :: _, [], h => h.elim
  | _ :: _, _ :: _, h => ⟨h.1.keepK hown hg, SlAll.keepK hown hg h.2⟩
theorem SlAll.below {w w' : World} (hb : Below w.heap.size w w') : ∀ {us : List Value} {ps : List (List Int)}, SlAll w us ps → SlAll w' us ps
  | [], [], _ => trivial
  | [], _ :: _, h => h.elim
  | _ :: _, [], h => h.elim
  | _ :: _, _ :: _, h => ⟨h.1.below hb (Nat.le_refl _), SlAll.below hb h.2⟩
theorem SlAll.snoc {w : World} {u : Value} {p : List Int} (hu : Sl w u (p.map (Value.int .u8))) : ∀ {us : List Value} {ps : List (List Int)}, SlAll w us ps → SlAll w (us ++ [u]) (ps ++ [p])
  | [], [], _ => ⟨hu, trivial⟩
  | [], _ :: _, h => h.elim
  | _ :: _, [], h => h.elim
  | _ :: _, _ :: _, h => ⟨h.1, SlAll.snoc hu h.2⟩

/-- A list of texts that the call makes. -/
def OSls (w : World) (base : Nat) (v : Value) (pss : List (List Int)) : Prop := ∃ vs, OwnK w base 22 1 v pss.length vs ∧ SlAll w vs pss

theorem OSls.nil (w : World) (base : Nat) : OSls w base (.slice none 0 0) [] := ⟨[], OwnK.nil _ _ _ _, trivial⟩
theorem OSls.below {w w' : World} {base : Nat} {v : Value} {pss : List (List Int)} (h : OSls w base v pss) (hb : Below w.heap.size w w') : OSls w' base v pss := by
  obtain ⟨vs, h1, h2⟩ := h
  exact ⟨vs, h1.below hb (Nat.le_refl _), h2.below hb⟩
theorem OSls.sls {w : World} {base : Nat} {v : Value} {pss : List (List Int)} (h : OSls w base v pss) : Sls w v pss := by
  obtain ⟨vs, h1, h2⟩ := h
  exact ⟨vs, Sl.of_owns h1.1, h2.len, h2.at⟩
theorem OSls.val {w : World} {base : Nat} {v : Value} {pss : List (List Int)} (h : OSls w base v pss) : ∃ a c, v = .slice a pss.length c := by
  obtain ⟨a, c, h1, _⟩ := h.sls.shape
  exact ⟨a, c, h1⟩

theorem infoT : (Tryd.prog.info? 22).map (fun i => (i.zero, i.size, i.bytes)) = some (some (.slice none 0 0), 1, 24) := by kernel_rfl

theorem wpList_append_text {w : World} {ops : Array Oper} {rest : List Oper} {o : Oper} {a : Act} {Q : Exit → Act → World → Prop} (hgd : o.guard = none) (s x : Operand)
    (ho : o.op = .call { callee := .builtin .append, args := #[s, x], argTypes := #[23, 23] })
    (base : Nat) (v : Value) (pss : List (List Int)) (hs : a.eval s = v) (hown : OSls w base v pss)
    (b cap : Nat) (hx : a.eval x = .slice (some ⟨b, 0, none⟩) 1 cap) (u : Value) (hc : w.cell? ⟨b, 0, none⟩ = some u) (p : List Int) (hu : Sl w u (p.map (Value.int .u8)))
    (h63 : pss.length + 1 ≤ 5000000000000) (hbase : base ≤ w.heap.size)
    (h : ∀ v' w', OSls w' base v' (pss ++ [p]) → Below base w w' → w.grownBy w' v.ownBlock → wpList Tryd.prog ops Q rest (a.put o.dst v') w') : wpList Tryd.prog ops Q (o :: rest) a w := by
  obtain ⟨vs, h1, h2⟩ := hown
  obtain ⟨i0, hi, hz0, hz1, hz2⟩ := info_parts infoT
  obtain ⟨ua, un, uc, rfl⟩ := hu.val
  obtain ⟨v', w', hrun, hown', hg⟩ := run_append_ownK (P := Tryd.prog) w base 23 o.type 22 i0 (.slice none 0 0) 1 24 Tryd.underlying23 hi hz0 hz1 hz2 rfl (by decide) (by intro c hc; simp [Value.cells] at hc; subst hc; exact notB_slice _ _ _) v pss.length vs h1 ⟨b, 0, none⟩ 1 cap [.slice ua un uc] rfl
    (fun j y hj => by
      match j, hj with
      | 0, hj => simp at hj; subst hj; exact hc
      | j + 1, hj => simp at hj) (by simp [Value.oneCell']) (by simp [notB_slice]) (by unfold maxLen; omega) (by omega) hbase
  refine wpList_plain hgd fun K hK => ?_
  unfold Oper.wp
  simp [execOp, ho, resolve, invoke, builtin, hs, hx, hrun, Result.andThen]
  refine hK _ _ (h v' w' ⟨_, by simpa using hown', (h2.keepK h1 hg).snoc (hu.keepK h1 hg)⟩ ?_ hg)
  exact (Below.refl _ _).grown hg hbase (fun k hk => (h1.1.lt k hk).1)

end Go.Proofs.YtililoojjfcfgaaDoor
