/- The walk of the law TextsMade. -/
import Derived.Test.YtpdajglcpkfonaaDoorTextD
namespace Go.Proofs.YtpdajglcpkfonaaDoor
open Go.RowKit
set_option linter.unusedVariables false

theorem textAb : textI 1 [[97, 98], []] = [1, 0, 2, 97, 98, 0, 0] := by decide
theorem codeAb : codeT 1 [[97, 98], []] = 0 := by decide
theorem contAb : contT 1 [[97, 98], []] = [1, 0, 2, 97, 98, 0, 0] := by decide

theorem hashT_isB (size tag : Int) (pss : List (List Int)) : IsB (hashT size tag pss) := by
  unfold hashT; split
  · exact cutI_isB _ _
  · intro x hx; cases hx

set_option maxHeartbeats 400000 in
theorem textsAwake_any (w : World) : Calls Tryd.prog 27 #[] w fun e w' => e = .returned (.bool true) ∧ Below w.heap.size w w' := by
  have hB : IsB [1, 0, 2, 97, 98, 0, 0] := by intro n hn; simp at hn; omega
  have kc := fun (w : World) (C : Array Value) (n c : Nat) => Lib.run_convert_bytes_const (P := Tryd.prog) w 22 5 C n c Tryd.underlying22 Tryd.underlying5
  go_enter Tryd.func27, Tryd.ntmps27
  go_wp2_with fail
  have hb0 : Below w.heap.size w (w.alloc (.cells #[.int .u8 97, .int .u8 98] 5 (2, 3))) := (Below.refl _ _).alloc (Nat.le_refl _) _
  have hs0 := Sl.litf w #[.int .u8 97, .int .u8 98] 5 (2, 3) (by simp [maxLen])
  have hsz1 : (w.alloc (.cells #[.int .u8 97, .int .u8 98] 5 (2, 3))).heap.size = w.heap.size + 1 := by simp
  generalize (w.alloc (.cells #[.int .u8 97, .int .u8 98] 5 (2, 3))) = w1 at *
  have hb1 : Below w1.heap.size w1 (w1.alloc (.cells #[.slice (some ⟨w.heap.size, 0, none⟩) 2 2, .slice none 0 0] 22)) := (Below.refl _ _).alloc (Nat.le_refl _) _
  have hS : Sls (w1.alloc (.cells #[.slice (some ⟨w.heap.size, 0, none⟩) 2 2, .slice none 0 0] 22)) (.slice (some ⟨w1.heap.size, 0, none⟩) 2 2) [[97, 98], []] := by
    refine ⟨[.slice (some ⟨w.heap.size, 0, none⟩) 2 2, .slice none 0 0], Sl.lit w1 #[.slice (some ⟨w.heap.size, 0, none⟩) 2 2, .slice none 0 0] 22 (by simp [maxLen]), rfl, fun i u bs hu hp => ?_⟩
    match i, hu, hp with
    | 0, hu, hp =>
      simp at hu hp
      subst hu hp
      exact hs0.below hb1 (Nat.le_refl _)
    | 1, hu, hp =>
      simp at hu hp
      subst hu hp
      exact Sl.nil _
    | i + 2, hu, hp => simp at hu
  have hb2 := hb0.trans (hb1.mono hb0.size)
  have hszq := hb2.size
  rw [hsz1] at hS
  have hT := text_any 1 _ [[97, 98], []] _ (by decide) (by decide) (by decide) hS
  rw [codeAb, contAb] at hT
  refine hT.mono ?_
  rintro e w2 ⟨x, rfl, hs2, hb3⟩
  have hb4 := below_trans2 hb2 hb3
  clear hsz1 hb0 hb1 hb2 hb3 hS hs0 kc hT
  go_wp2_with fail
  refine (bytesEq_same _ _ [1, 0, 2, 97, 98, 0, 0] _ (hs2.below ((Below.refl _ _).alloc (Nat.le_refl _) _) (Nat.le_refl _)) (Sl.lit w2 #[.int .u8 1, .int .u8 0, .int .u8 2, .int .u8 97, .int .u8 98, .int .u8 0, .int .u8 0] _ (by simp [maxLen])) hB).mono ?_
  rintro e w3 ⟨rfl, rfl⟩
  go_wp2
  go_ret
  exact ⟨rfl, hb4.alloc hb4.size _⟩

set_option maxHeartbeats 400000 in
theorem textsMade_walk (size tag : Int) (v : Value) (pss : List (List Int)) (n : Int) (w : World) (ht : Tabs w) (hz0 : -9223372036854775808 ≤ size) (hz1 : size ≤ 9223372036854775807) (h1 : -9223372036854775808 ≤ tag) (h2 : tag ≤ 9223372036854775807)
    (hB : ∀ p ∈ pss, IsB p) (hS : Sls w v pss) (hn0 : -9223372036854775808 ≤ n) (hn1 : n ≤ 9223372036854775807) :
    Calls Tryd.prog 7 #[.int .i64 size, .int .i64 tag, v, .int .i64 n] w fun e w' => e = .returned (.bool true) ∧ Below w.heap.size w w' := by
  go_enter Tryd.func7, Tryd.ntmps7
  go_wp2_with fail
  refine (few_any v pss w hS).mono ?_
  rintro e w0 ⟨v0, rfl, hS0, rfl⟩
  have hB0 : ∀ p ∈ pss.take 10, IsB p := fun p hp => hB p (List.mem_of_mem_take hp)
  have hL0 : (pss.take 10).length ≤ 1000000 := by rw [List.length_take]; omega
  generalize pss.take 10 = ps at *
  clear hS hB
  have HL := Lib.hid hL0
  clear hL0
  go_wp2_with fail
  refine (text_any tag v0 ps w HL.out h1 h2 hS0).mono ?_
  rintro e w1 ⟨x1, rfl, hx1, hb1⟩
  have hS1 := hS0.below hb1 (Nat.le_refl _)
  have ht1 := ht.below hb1
  go_wp2_with fail
  refine (refText_any tag v0 ps w1 HL.out h1 h2 hS1).mono ?_
  rintro e w2 ⟨x2, rfl, hx2, hb2⟩
  have hS2 := hS1.below hb2 (Nat.le_refl _)
  have hx1 := hx1.below hb2 (Nat.le_refl _)
  have ht2 := ht1.below hb2
  have hb12 := below_trans2 hb1 hb2
  clear hb1 hb2 ht1 hS1
  go_wp2_with fail
  refine (bytesEq_same _ _ (contT tag ps) w2 hx1 hx2 (contT_isB tag ps hB0)).mono ?_
  rintro e w3 ⟨rfl, rfl⟩
  go_wp2_with fail
  refine (hash_any size tag v0 ps w2 HL.out h1 h2 hS2 hB0 ht2).mono ?_
  rintro e w3 ⟨x3, rfl, hx3, hb3⟩
  have hS3 := hS2.below hb3 (Nat.le_refl _)
  have hb13 := below_trans2 hb12 hb3
  clear hb12 hb3 hx1 hx2 hS2
  go_wp2_with fail
  refine (refHash_any size tag v0 ps w3 HL.out h1 h2 hS3 hB0).mono ?_
  rintro e w4 ⟨x4, rfl, hx4, hb4⟩
  have hx3 := hx3.below hb4 (Nat.le_refl _)
  have hb14 := below_trans2 hb13 hb4
  clear hb13 hb4 hS3
  go_wp2_with fail
  refine (bytesEq_same _ _ (hashT size tag ps) w4 hx3 hx4 (hashT_isB size tag ps)).mono ?_
  rintro e w5 ⟨rfl, rfl⟩
  go_wp2_with fail
  refine (number_any n w4 hn0 hn1).mono ?_
  rintro e w5 ⟨x5, rfl, hx5, hb5⟩
  have hb15 := below_trans2 hb14 hb5
  clear hb14 hb5 hx3 hx4
  go_wp2_with fail
  refine (refNumber_any n w5 hn0 hn1).mono ?_
  rintro e w6 ⟨x6, rfl, hx6, hb6⟩
  have hx5 := hx5.below hb6 (Nat.le_refl _)
  have hb16 := below_trans2 hb15 hb6
  clear hb15 hb6
  go_wp2_with fail
  refine (bytesEq_same _ _ (numI n) w6 hx5 hx6 (numI_isB n)).mono ?_
  rintro e w7 ⟨rfl, rfl⟩
  go_wp2_with fail
  refine (textsAwake_any w6).mono ?_
  rintro e w7 ⟨rfl, hb7⟩
  have hb17 := below_trans2 hb16 hb7
  go_wp2
  go_ret
  exact ⟨rfl, hb17⟩

end Go.Proofs.YtpdajglcpkfonaaDoor
