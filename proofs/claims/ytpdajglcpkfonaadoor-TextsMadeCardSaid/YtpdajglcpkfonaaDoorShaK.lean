/- The walks of the laws ShaBorders and ShaCuts. -/
import Derived.Test.YtpdajglcpkfonaaDoorShaJ
namespace Go.Proofs.YtpdajglcpkfonaaDoor
open Go.RowKit
set_option linter.unusedVariables false

set_option maxHeartbeats 400000 in
theorem shaBorders_walk (a : Int) (w : World) (ht : Tabs w) (ha : -9223372036854775808 ≤ a) (ha' : a ≤ 9223372036854775807) :
    Calls Tryd.prog 3 #[.int .i64 a] w fun e w' => e = .returned (.bool true) ∧ Below w.heap.size w w' := by
  have h1 := u64_rem a 90 (by omega) (by omega)
  generalize hL : wrap64 ((IntKind.u64.wrap a).tmod 90) = L at h1
  obtain ⟨n, rfl⟩ : ∃ n : Nat, L = n := ⟨L.toNat, by omega⟩
  have hmk : ∀ w : World, (Instr.makeSlice 22 (.int .i64 (50 + (n : Int))) (.int .i64 (50 + (n : Int)))).run Tryd.prog w = .ok (.slice (some ⟨w.heap.size, 0, none⟩) (50 + n) (50 + n)) (w.alloc (.cells (madeCells #[.int .u8 0] (50 + n)) 5)) :=
    fun w => run_make_row' (P := Tryd.prog) 22 5 (.int .u8 0) 1 Tryd.underlying22 (by kernel_rfl) rfl .i64 .i64 (50 + n) (by omega) (by omega) w
  obtain ⟨bs, hbs⟩ : ∃ bs : List Int, bs = (List.range (50 + n)).map fun _ => 0 := ⟨_, rfl⟩
  have hB : IsB bs := by rw [hbs]; intro x hx; simp at hx; omega
  have hbl : bs.length ≤ 200 := by rw [hbs]; simp; omega
  have hb0 : Below w.heap.size w (w.alloc (.cells (madeCells #[.int .u8 0] (50 + n)) 5)) := (Below.refl _ _).alloc (Nat.le_refl _) _
  have hs0 : Sl (w.alloc (.cells (madeCells #[.int .u8 0] (50 + n)) 5)) (.slice (some ⟨w.heap.size, 0, none⟩) (50 + n) (50 + n)) (bs.map (Value.int .u8)) := by
    rw [hbs]
    exact Sl.of_row (F := fun _ => 0) (World.rowIs_made w (.int .u8 0) (50 + n) 5) (by omega) (Nat.le_refl _) (by unfold maxLen; omega)
  have ht0 := ht.below hb0
  clear hbs
  go_enter Tryd.func3, Tryd.ntmps3
  go_wp2_with fail
  generalize (w.alloc (.cells (madeCells #[.int .u8 0] (50 + n)) 5)) = w1 at *
  refine (sum_any _ bs w1 (by omega) hB.at hs0 ht0).mono ?_
  rintro e w2 ⟨v2, rfl, hs2, hb2⟩
  have hs := hs0.below hb2 (Nat.le_refl _)
  have ht2 := ht0.below hb2
  have hb12 := below_trans2 hb0 hb2
  clear hb0 hb2 ht0 hs0
  go_wp2_with fail
  refine (refSum_any _ bs w2 (by omega) hB.at hs).mono ?_
  rintro e w3 ⟨v3, rfl, hs3, hb3⟩
  have hs := hs.below hb3 (Nat.le_refl _)
  have hs2 := hs2.below hb3 (Nat.le_refl _)
  have ht3 := ht2.below hb3
  have hb13 := below_trans2 hb12 hb3
  clear hb12 hb3 ht2
  go_wp2_with fail
  refine (bytesEq_same _ _ (sumI bs) w3 hs2 hs3 (sumI_isB bs)).mono ?_
  rintro e w4 ⟨rfl, rfl⟩
  go_wp2_with fail
  refine (sum_any _ bs w3 (by omega) hB.at hs ht3).mono ?_
  rintro e w5 ⟨v5, rfl, hs5, hb5⟩
  have hb15 := below_trans2 hb13 hb5
  obtain ⟨a5, c5, rfl, hc5, hm5⟩ := hs5.shape
  rw [List.length_map, sumI_len] at *
  go_wp2
  go_ret
  exact ⟨rfl, hb15⟩

def cutI (a : Int) (bs : List Int) : List Int := (sumI bs).take (min (max a 0) 32).toNat
theorem cutI_isB (a : Int) (bs : List Int) : IsB (cutI a bs) := fun x hx => sumI_isB bs x (List.mem_of_mem_take hx)
theorem cutI_len (a : Int) (bs : List Int) : (cutI a bs).length = (min (max a 0) 32).toNat := by unfold cutI; rw [List.length_take, sumI_len]; omega

set_option maxHeartbeats 400000 in
theorem shaCut_any (a : Int) (v : Value) (bs : List Int) (w : World) (hn : bs.length ≤ 281474976710656) (hB : ∀ j, 0 ≤ bs.getD j 0 ∧ bs.getD j 0 ≤ 255) (hs : Sl w v (bs.map (Value.int .u8))) (ht : Tabs w) :
    Calls Tryd.prog 16 #[.int .i64 a, v] w fun e w' => ∃ v', e = .returned v' ∧ Sl w' v' ((cutI a bs).map (Value.int .u8)) ∧ Below w.heap.size w w' := by
  have hsum := Lib.hid (sum_any v bs w hn hB hs ht)
  clear hn
  obtain ⟨s, hsd⟩ : ∃ s : Nat, (s : Int) = min (max a 0) 32 := ⟨(min (max a 0) 32).toNat, by omega⟩
  have hs32 : s ≤ 32 := by omega
  have hst : (min (max a 0) 32).toNat = s := by omega
  have HST := Lib.hid hst
  clear hst
  rcases (show a < 0 ∨ (0 ≤ a ∧ a ≤ 32) ∨ 32 < a by omega) with h | ⟨h, h'⟩ | h
  · obtain rfl : s = 0 := by omega
    clear hsd
    go_enter Tryd.func16, Tryd.ntmps16
    go_wp2_with fail
    refine hsum.out.mono ?_
    rintro e w1 ⟨v1, rfl, hs1, hb1⟩
    obtain ⟨a1, c1, rfl, hc1, hm1⟩ := hs1.shape
    have ht1 := hs1.take3 0 0 (by omega) (by omega) (by omega)
    rw [← List.map_take, ← HST.out] at ht1
    rw [List.length_map, sumI_len] at *
    go_wp2
    go_ret
    exact ⟨_, rfl, by simpa [cutI, HST.out] using ht1, hb1⟩
  · obtain rfl : a = (s : Int) := by omega
    have hI : ¬ (s : Int) < 0 := by omega
    have hJ : ¬ 32 < (s : Int) := by omega
    clear hsd
    go_enter Tryd.func16, Tryd.ntmps16
    go_wp2_with fail
    refine hsum.out.mono ?_
    rintro e w1 ⟨v1, rfl, hs1, hb1⟩
    obtain ⟨a1, c1, rfl, hc1, hm1⟩ := hs1.shape
    rw [List.length_map, sumI_len] at *
    have hcI : (s : Int) ≤ (c1 : Int) := by omega
    have ht1 := hs1.take3 s s (by rw [List.length_map, sumI_len]; omega) (by omega) (by omega)
    rw [← List.map_take] at ht1
    go_wp2
    go_ret
    exact ⟨_, rfl, by unfold cutI; rw [HST.out]; exact ht1, hb1⟩
  · obtain rfl : s = 32 := by omega
    have hI : ¬ a < 0 := by omega
    clear hsd
    go_enter Tryd.func16, Tryd.ntmps16
    go_wp2_with fail
    refine hsum.out.mono ?_
    rintro e w1 ⟨v1, rfl, hs1, hb1⟩
    obtain ⟨a1, c1, rfl, hc1, hm1⟩ := hs1.shape
    rw [List.length_map, sumI_len] at *
    have hcI : (32 : Int) ≤ (c1 : Int) := by omega
    have ht1 := hs1.take3 32 32 (by rw [List.length_map, sumI_len]; omega) (by omega) (by omega)
    rw [← List.map_take] at ht1
    go_wp2
    go_ret
    exact ⟨_, rfl, by unfold cutI; rw [HST.out]; exact ht1, hb1⟩

end Go.Proofs.YtpdajglcpkfonaaDoor
