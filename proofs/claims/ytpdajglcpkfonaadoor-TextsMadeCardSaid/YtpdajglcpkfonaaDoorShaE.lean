/- The walks of bytes.HasPrefix, of the sums' awake, and of the law ShaBlocks. -/
import Derived.Test.YtpdajglcpkfonaaDoorShaD
import Derived.Test.YtpdajglcpkfonaaDoorBytes
import Derived.Lib.SlBytesConst
namespace Go.Proofs.YtpdajglcpkfonaaDoor
open Go.RowKit
set_option linter.unusedVariables false

theorem IsB.at {xs : List Int} (h : IsB xs) : ∀ j, 0 ≤ xs.getD j 0 ∧ xs.getD j 0 ≤ 255 := fun j => h.getD j

theorem sumI_isB (bs : List Int) : IsB (sumI bs) := by
  intro x hx
  unfold sumI at hx
  obtain ⟨i, _, rfl⟩ := List.mem_map.1 hx
  unfold outI; omega

theorem sumI_len (bs : List Int) : (sumI bs).length = 32 := by simp [sumI]

set_option maxHeartbeats 400000 in
theorem hasPrefix_any (v1 v2 : Value) (xs ys : List Int) (w : World) (h1 : Sl w v1 (xs.map (Value.int .u8))) (h2 : Sl w v2 (ys.map (Value.int .u8))) (hx : IsB xs) (hy : IsB ys) (hp : xs.take ys.length = ys) :
    Calls Tryd.prog 18 #[v1, v2] w fun e w' => e = .returned (.bool true) ∧ w = w' := by
  have hle : ys.length ≤ xs.length := by rw [← hp]; simp; omega
  obtain ⟨a1, c1, rfl, hc1, hm1⟩ := h1.shape
  obtain ⟨a2, c2, rfl, hc2, hm2⟩ := h2.shape
  have t1 := h1.take ys.length (by simpa using hle)
  rw [← List.map_take, hp] at t1
  simp only [List.length_map] at *
  have hleI : (ys.length : Int) ≤ (xs.length : Int) := by omega
  have hc : ys.length ≤ c1 := by omega
  have HP := Lib.hid hp
  clear hp
  go_enter Tryd.func18, Tryd.ntmps18
  go_wp2_with (go_at_call 10; refine (bytesEq_same _ _ ys _ t1 h2 hy).mono ?_; rintro e w1 ⟨rfl, rfl⟩)
  go_ret
  exact ⟨rfl, rfl⟩

theorem sum_abc : (sumI [97, 98, 99]).take 4 = [186, 120, 22, 191] := by decide +kernel

theorem shaAwake_any (w : World) (ht : Tabs w) : Calls Tryd.prog 15 #[] w fun e w' => e = .returned (.bool true) ∧ Below w.heap.size w w' := by
  have hB : IsB [97, 98, 99] := by intro n hn; simp at hn; omega
  have hB2 : IsB [186, 120, 22, 191] := by intro n hn; simp at hn; omega
  have kc := fun (w : World) (C : Array Value) (n c : Nat) => Lib.run_convert_bytes_const (P := Tryd.prog) w 22 5 C n c Tryd.underlying22 Tryd.underlying5
  go_enter Tryd.func15, Tryd.ntmps15
  go_wp2_with fail
  have hb0 : Below w.heap.size w (w.alloc (.cells #[.int .u8 97, .int .u8 98, .int .u8 99] 5 (3, 4))) := (Below.refl _ _).alloc (Nat.le_refl _) _
  refine (sum_any _ [97, 98, 99] _ (by simp) hB.at (Sl.litf w #[.int .u8 97, .int .u8 98, .int .u8 99] 5 (3, 4) (by simp [maxLen])) (ht.below hb0)).mono ?_
  rintro e w1 ⟨v, rfl, hs1, hb1⟩
  have hb2 := below_trans2 hb0 hb1
  clear hb0 hb1
  go_wp2_with fail
  refine (hasPrefix_any _ _ _ [186, 120, 22, 191] _ (hs1.below ((Below.refl _ _).alloc (Nat.le_refl _) _) (Nat.le_refl _)) (Sl.lit w1 #[.int .u8 186, .int .u8 120, .int .u8 22, .int .u8 191] _ (by simp [maxLen])) (sumI_isB _) hB2 sum_abc).mono ?_
  rintro e w2 ⟨rfl, rfl⟩
  go_wp2
  go_ret
  exact ⟨rfl, hb2.alloc hb2.size _⟩

theorem refBlocks_any (n : Nat) (h : n ≤ 9223372036854770000) (w : World) :
    Calls Tryd.prog 14 #[.int .i64 n] w fun e w' => e = .returned (.int .i64 (blk n)) ∧ w = w' := by
  go_enter Tryd.func14, Tryd.ntmps14
  go_wp2
  go_ret
  exact ⟨ret_int (by unfold blk; omega), rfl⟩

theorem blocks_neg (n : Int) (h : n < 0) (h2 : -9223372036854775808 ≤ n) (w : World) :
    Calls Tryd.prog 13 #[.int .i64 n] w fun e w' => e = .returned (.int .i64 1) ∧ w = w' := by
  go_enter Tryd.func13, Tryd.ntmps13
  go_wp2
  go_ret
  exact ⟨rfl, rfl⟩

theorem u64_rem (x m : Int) (hm : 0 < m) (hm' : m ≤ 9223372036854775807) : 0 ≤ wrap64 ((IntKind.u64.wrap x).tmod m) ∧ wrap64 ((IntKind.u64.wrap x).tmod m) < m := by
  have h0 : 0 ≤ IntKind.u64.wrap x := by simp [IntKind.wrap, IntKind.signed, IntKind.bits]; omega
  have h1 : 0 ≤ (IntKind.u64.wrap x).tmod m := Int.tmod_nonneg _ h0
  have h2 : (IntKind.u64.wrap x).tmod m < m := Int.tmod_lt_of_pos _ hm
  have h3 : wrap64 ((IntKind.u64.wrap x).tmod m) = (IntKind.u64.wrap x).tmod m := by
    generalize (IntKind.u64.wrap x).tmod m = y at *
    unfold wrap64; omega
  omega

set_option maxHeartbeats 400000 in
theorem shaBlocks_walk (a : Int) (w : World) (ht : Tabs w) (ha : -9223372036854775808 ≤ a) (ha' : a ≤ 9223372036854775807) :
    Calls Tryd.prog 4 #[.int .i64 a] w fun e w' => e = .returned (.bool true) ∧ Below w.heap.size w w' := by
  have h1 := u64_rem a 100000 (by omega) (by omega)
  generalize hL : wrap64 ((IntKind.u64.wrap a).tmod 100000) = L at h1
  obtain ⟨n, rfl⟩ : ∃ n : Nat, L = n := ⟨L.toNat, by omega⟩
  have hb : (blk n : Int) ≤ 2000 ∧ (n : Int) + 9 ≤ 64 * (blk n : Int) := by unfold blk; omega
  obtain ⟨B, hB⟩ : ∃ B : Nat, B = blk n := ⟨_, rfl⟩
  rw [← hB] at hb
  have HB := Lib.hid hB
  clear hB
  obtain ⟨hb0, hb1⟩ := hb
  go_enter Tryd.func4, Tryd.ntmps4
  go_wp2_with fail
  refine (blocks_any n (by omega) _).mono ?_
  rw [← HB.out]
  rintro e w1 ⟨rfl, rfl⟩
  go_wp2_with fail
  refine (refBlocks_any n (by omega) _).mono ?_
  rw [← HB.out]
  rintro e w1 ⟨rfl, rfl⟩
  go_wp2_with fail
  refine (blocks_neg _ (by omega) (by omega) _).mono ?_
  rintro e w1 ⟨rfl, rfl⟩
  go_wp2_with fail
  refine (blocks_any n (by omega) _).mono ?_
  rw [← HB.out]
  rintro e w1 ⟨rfl, rfl⟩
  go_wp2_with fail
  refine (shaAwake_any _ ht).mono ?_
  rintro e w1 ⟨rfl, hb5⟩
  go_wp2
  go_ret
  exact ⟨rfl, hb5⟩

end Go.Proofs.YtpdajglcpkfonaaDoor
