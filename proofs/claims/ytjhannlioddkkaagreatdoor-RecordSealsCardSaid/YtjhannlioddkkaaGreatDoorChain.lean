
/- The walk along a chain, the program's. -/
import Derived.Test.YtjhannlioddkkaaGreatDoorTextD
import Derived.Test.YtjhannlioddkkaaGreatDoorClone
namespace Go.Proofs.YtjhannlioddkkaaGreatDoor
open Go.RowKit
set_option linter.unusedVariables false

/-- n steps along a chain from the step f on. -/
def chI (size idx i f : Int) (x : List Int) : Nat → List Int
  | 0 => x
  | n + 1 => hashT size 7 [numI idx, numI i, numI (f + n), chI size idx i f x n]

theorem chI_add (size idx i f : Int) (x : List Int) (a b : Nat) : chI size idx i f x (a + b) = chI size idx i (f + a) (chI size idx i f x a) b := by
  induction b with
  | zero => rfl
  | succ b ih =>
    rw [← Nat.add_assoc]
    simp only [chI]
    rw [ih, show f + ((a + b : Nat) : Int) = f + a + b by omega]

theorem hashT_isB' (size tag : Int) (pss : List (List Int)) : IsB (hashT size tag pss) := by
  unfold hashT; split
  · exact cutI_isB _ _
  · intro x hx; cases hx

theorem hashT_len (size tag : Int) (pss : List (List Int)) : (hashT size tag pss).length ≤ 32 := by
  unfold hashT; split
  · rw [cutI_len]; omega
  · simp

theorem chI_isB (size idx i f : Int) (x : List Int) (h : IsB x) : ∀ n, IsB (chI size idx i f x n)
  | 0 => h
  | n + 1 => hashT_isB' _ _ _

theorem chI_len (size idx i f : Int) (x : List Int) (n : Nat) : (chI size idx i f x n).length ≤ max x.length 32 := by
  cases n with
  | zero => simp only [chI]; omega
  | succ n => have := hashT_len size 7 [numI idx, numI i, numI (f + n), chI size idx i f x n]; simp only [chI]; omega

theorem numI_all {ps : List (List Int)} (h : ∀ p ∈ ps, IsB p) (n : Int) : ∀ p ∈ numI n :: ps, IsB p := fun p hp => by
  rcases List.mem_cons.1 hp with rfl | hp
  · exact numI_isB n
  · exact h p hp

set_option maxHeartbeats 1000000 in
theorem chain_any (size : Int) (v : Value) (bs : List Int) (idx i fr te : Int) (w : World) (hx0 : -9223372036854775808 ≤ idx) (hx1 : idx ≤ 9223372036854775807) (hi0 : -9223372036854775808 ≤ i) (hi1 : i ≤ 9223372036854775807) (hf1 : fr ≤ 9223372036854775807)
    (hn : bs.length ≤ 140737488351232) (hB : IsB bs) (hs : Sl w v (bs.map (Value.int .u8))) (ht : Tabs w) :
    Calls Tryz.prog 74 #[.int .i64 size, v, .int .i64 idx, .int .i64 i, .int .i64 fr, .int .i64 te] w fun e w' => ∃ x, e = .returned x ∧ Sl w' x ((chI size idx i (max fr 0) bs (min te 3 - max fr 0).toNat).map (Value.int .u8)) ∧ Below w.heap.size w w' := by
  obtain ⟨f0, hf0⟩ : ∃ f0 : Int, f0 = max fr 0 := ⟨_, rfl⟩
  obtain ⟨m, hm⟩ : ∃ m : Nat, m = (min te 3 - max fr 0).toNat := ⟨_, rfl⟩
  rw [← hm, ← hf0]
  have HM := Lib.hid hm
  have HC := Lib.hid (sclone_any v bs w hn hs)
  rcases (show 0 ≤ fr ∧ f0 = fr ∨ fr < 0 ∧ f0 = 0 by omega) with ⟨h, hf⟩ | ⟨h, hf⟩
  all_goals
    have HF := Lib.hid hf0
    clear hf hf0 hm hn hs
    go_enter Tryz.func74, Tryz.ntmps74
    go_wp2_with fail
    refine HC.out.mono ?_
    rintro e w1 ⟨x1, rfl, hs1, hb1⟩
    have ht1 := ht.below hb1
    go_wp2
    go_loopw [1, 13] (fun x k wr => ∃ (j : Nat) (q : Int) (xv : Value), xv = x ∧ k = .int .i64 q ∧ Hid (q = f0 + j) ∧ 0 ≤ q ∧ q ≤ 9223372036854775807 ∧ j ≤ m ∧ Sl wr x ((chI size idx i f0 bs j).map (Value.int .u8)) ∧ Below w.heap.size w wr) (fun _ k _ => (3 - intOf k).toNat)
    case atStart =>
      refine ⟨0, f0, _, rfl, ?_, show f0 = f0 + (0 : Nat) by omega, by have := HF.out; omega, by have := HF.out; omega, by omega, hs1, hb1⟩
      have := HF.out
      first | rfl | (congr 1; omega)
    case round =>
      obtain ⟨j, q, x, rfl, rfl, hq, hq0, hq1, hj, hsx, hbr⟩ := hrel
      have htr := ht.below hbr
      have hXB := chI_isB size idx i f0 bs hB j
      have HSN := Lib.hid (show chI size idx i f0 bs (j + 1) = hashT size 7 [numI idx, numI i, numI q, chI size idx i f0 bs j] by rw [hq.out]; rfl)
      clear hs1 hb1 ht1 ht
      by_cases h3 : q < 3
      · by_cases hto : q < te
        · go_wp2_with fail
          refine (number_any idx wr hx0 hx1).mono ?_
          rintro e w2 ⟨n1, rfl, hn1, hb2⟩
          have hsx := hsx.below hb2 (Nat.le_refl _)
          have hbr := hbr.trans (hb2.mono hbr.size)
          have htr := htr.below hb2
          clear hb2
          go_wp2_with fail
          refine (number_any i w2 hi0 hi1).mono ?_
          rintro e w3 ⟨n2, rfl, hn2, hb3⟩
          have hsx := hsx.below hb3 (Nat.le_refl _)
          have hn1 := hn1.below hb3 (Nat.le_refl _)
          have hbr := hbr.trans (hb3.mono hbr.size)
          have htr := htr.below hb3
          clear hb3
          go_wp2_with fail
          refine (number_any q w3 (by omega) (by omega)).mono ?_
          rintro e w4 ⟨n3, rfl, hn3, hb4⟩
          have hsx := hsx.below hb4 (Nat.le_refl _)
          have hn1 := hn1.below hb4 (Nat.le_refl _)
          have hn2 := hn2.below hb4 (Nat.le_refl _)
          have hbr := hbr.trans (hb4.mono hbr.size)
          have htr := htr.below hb4
          clear hb4
          obtain ⟨a1, l1, c1, rfl⟩ := hn1.val
          obtain ⟨a2, l2, c2, rfl⟩ := hn2.val
          obtain ⟨a3, l3, c3, rfl⟩ := hn3.val
          obtain ⟨a4, l4, c4, rfl⟩ := hsx.val
          have hL := Sls.litA _ 22 (show SlAll w4 [.slice a1 l1 c1, .slice a2 l2 c2, .slice a3 l3 c3, .slice a4 l4 c4] [numI idx, numI i, numI q, chI size idx i f0 bs j] from ⟨hn1, hn2, hn3, hsx, trivial⟩) (by simp [maxLen])
          have hbA := hbr.alloc hbr.size (.cells #[.slice a1 l1 c1, .slice a2 l2 c2, .slice a3 l3 c3, .slice a4 l4 c4] 22)
          have htA := htr.below ((Below.refl _ _).alloc (Nat.le_refl _) (.cells #[.slice a1 l1 c1, .slice a2 l2 c2, .slice a3 l3 c3, .slice a4 l4 c4] 22))
          have HH := Lib.hid (hash_any size 7 _ _ _ (by simp) (by decide) (by decide) hL (numI_all (numI_all (numI_all (fun p hp => by
            obtain rfl := List.mem_singleton.1 hp
            exact hXB) _) _) _) htA)
          rw [← HSN.out] at HH
          clear hL htA htr hsx hn1 hn2 hn3 hXB
          go_wp2_with fail
          refine HH.out.mono ?_
          rintro e w5 ⟨y, rfl, hy, hb5⟩
          have hbr := hbA.trans (hb5.mono hbA.size)
          clear hb5 hbA HH
          go_wp2
          go_roundw
          case rel => exact ⟨j + 1, q + 1, _, rfl, by go_num, by have := hq.out; show q + 1 = f0 + ((j + 1 : Nat) : Int); omega, by omega, by omega, by have := hq.out; have := HM.out; have := HF.out; omega, hy, hbr⟩
          case measure => simp [intOf]; omega
        · go_wp2
          go_ret
          refine ⟨_, rfl, ?_, hbr⟩
          have : j = m := by have := hq.out; have := HM.out; have := HF.out; omega
          rw [← this]; exact hsx
      · by_cases hto : q < te
        all_goals
          go_wp2
          go_ret
          refine ⟨_, rfl, ?_, hbr⟩
          have : j = m := by have := hq.out; have := HM.out; have := HF.out; omega
          rw [← this]; exact hsx

end Go.Proofs.YtjhannlioddkkaaGreatDoor
