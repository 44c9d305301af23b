/- The reference's device: New. -/
import Derived.Test.YteaimjfpmacgeaaRvF
import Derived.Test.YteaimjfpmacgeaaDvS
import Derived.Test.YteaimjfpmacgeaaDvI
namespace Go.Proofs.Yteaimjfpmacgeaa
open Go.RowKit
set_option linter.unusedVariables false

def z0 : List Int := List.replicate 64 0
theorem z0_len : z0.length = 64 := by simp [z0]
theorem z0_B : IsB z0 := fun x hx => by obtain ⟨_, rfl⟩ := List.mem_replicate.1 hx; omega
theorem z64_list : z64 = (z0.map (Value.int .u8)).toArray := by
  apply Array.ext'
  simp [z64, z0]
theorem ofD_new (n : Nat) : ofD (List.replicate n z0) = newD n := by
  unfold ofD newD zeroSec z0
  rw [List.map_replicate]

set_option maxRecDepth 100000 in
set_option maxHeartbeats 1000000 in
theorem rnew_ok (n : Nat) (w : World) (h1 : 1 ≤ n) (h2 : n ≤ 16384) :
    Calls Try.prog 25 #[.int .i64 n] w fun e w' => ∃ y gl gk gw, e = .returned (.tuple #[.pointer (some ⟨y, 0, none⟩), .int .i64 0]) ∧ (∀ k ∈ [y, gl, gk, gw], w.heap.size ≤ k) ∧ RDev w' y gl gk gw (newD n) ∧ Below w.heap.size w w' := by
  have hmk := run_make64
  have hI1 : ¬ (n : Int) < 1 := by omega
  have hI2 : ¬ (16384 : Int) < (n : Int) := by omega
  go_enter Try.func25, Try.ntmps25
  go_wp2
  go_loopw [4, 12] (fun v i wr => ∃ k : Nat, k ≤ n ∧ i = .int .i64 k ∧ OBs wr w.heap.size v (List.replicate k z0) ∧ Below w.heap.size w wr) (fun _ i _ => n - (intOf i).toNat)
  case atStart => exact ⟨0, by omega, rfl, OBs.nil _ _, Below.refl _ _⟩
  case round =>
    obtain ⟨k, hk, rfl, hO, hb⟩ := hrel
    by_cases hlt : k < n
    · have hkI : (k : Int) < (n : Int) := by omega
      have hbA : Below w.heap.size w (wr.alloc (.cells z64 5)) := hb.alloc hb.size _
      have kA := Blk.new wr 5 z64
      have hbB := hbA.alloc hbA.size (.cells #[.slice (some ⟨wr.heap.size, 0, none⟩) 64 64] 29)
      have kB := Blk.new (wr.alloc (.cells z64 5)) 29 #[.slice (some ⟨wr.heap.size, 0, none⟩) 64 64]
      have hAB : Below wr.heap.size wr ((wr.alloc (.cells z64 5)).alloc (.cells #[.slice (some ⟨wr.heap.size, 0, none⟩) 64 64] 29)) := ((Below.refl wr.heap.size wr).alloc (Nat.le_refl _) _).alloc (by simp) _
      have hO2 := hO.below hAB
      have hOB : OB ((wr.alloc (.cells z64 5)).alloc (.cells #[.slice (some ⟨wr.heap.size, 0, none⟩) 64 64] 29)) w.heap.size (.slice (some ⟨wr.heap.size, 0, none⟩) 64 64) z0 :=
        OB.ofBlk (by rw [← z64_list]; exact kA.alloc _) z0_len (by omega) hb.size
      have cB : ((wr.alloc (.cells z64 5)).alloc (.cells #[.slice (some ⟨wr.heap.size, 0, none⟩) 64 64] 29)).cell? ⟨wr.heap.size + 1, 0, none⟩ = some (.slice (some ⟨wr.heap.size, 0, none⟩) 64 64) := by
        have := kB.cell 0
        rw [World.size_alloc] at this
        exact this
      have hsz : w.heap.size ≤ ((wr.alloc (.cells z64 5)).alloc (.cells #[.slice (some ⟨wr.heap.size, 0, none⟩) 64 64] 29)).heap.size := hbB.size
      have hrep : List.replicate k z0 ++ [z0] = List.replicate (k + 1) z0 := by rw [List.replicate_succ']
      have HREP := Lib.hid hrep
      have HBB := Lib.hid hbB
      clear hb hO hbA kA kB hbB hAB hrep
      obtain ⟨va, vc, rfl⟩ := hO2.val
      have HO2 := Lib.hid hO2
      have HOB := Lib.hid hOB
      have HCB := Lib.hid cB
      have HSZ := Lib.hid hsz
      clear hO2 hOB cB hsz
      go_wp2_with (at_builtin; refine wpList_append_ob rfl (.tmp 14) (.tmp 16) rfl w.heap.size _ _ rfl HO2.out (wr.heap.size + 1) 1 rfl _ HCB.out z0 HOB.out (by rw [List.length_replicate]; omega) HSZ.out ?_)
      intro v2 w2 hx hb2 hg2
      rw [HREP.out] at hx
      have hbw := HBB.out.trans hb2
      clear hb2 hg2
      obtain ⟨ua, uc, rfl⟩ := hx.val
      go_wp2
      go_roundw
      case rel => exact ⟨k + 1, hlt, by go_num, hx, hbw⟩
      case measure => simp [intOf]; omega
    · obtain rfl : k = n := by omega
      have hkI : ¬ (k : Int) < (k : Int) := by omega
      obtain ⟨va, vc, rfl⟩ : ∃ a c, u4 = Value.slice a k c := by
        obtain ⟨a, c, e⟩ := hO.val
        rw [List.length_replicate] at e
        exact ⟨a, c, e⟩
      have HC := Lib.hid (rof_ok _ (List.replicate k z0) wr hO.sls (by rw [List.length_replicate]; exact h1) (by rw [List.length_replicate]; exact h2) (fun p hp => by obtain ⟨_, rfl⟩ := List.mem_replicate.1 hp; exact ⟨z0_len, z0_B⟩))
      rw [ofD_new] at HC
      have HB := Lib.hid hb
      clear hO hb
      go_wp2_with fail
      refine HC.out.mono ?_
      rintro e w2 ⟨y, gl, gk, gw, rfl, hge, hD, hb2⟩
      have hbw := below_trans2 HB.out hb2
      have HN := Lib.hid (show w.heap.size ≤ y ∧ w.heap.size ≤ gl ∧ w.heap.size ≤ gk ∧ w.heap.size ≤ gw from ⟨Nat.le_trans HB.out.size (hge y (by simp)), Nat.le_trans HB.out.size (hge gl (by simp)), Nat.le_trans HB.out.size (hge gk (by simp)), Nat.le_trans HB.out.size (hge gw (by simp))⟩)
      have HD := Lib.hid hD
      have HBW := Lib.hid hbw
      clear hge hD hb2 hbw HB HC
      go_wp2
      go_ret2
      first | exact ⟨y, gl, gk, gw, rfl, HN.out, HD.out, HBW.out⟩ | exact ⟨y, gl, gk, gw, rfl, (by simpa using HN.out), HD.out, HBW.out⟩ | exact ⟨y, gl, gk, gw, ⟨rfl, rfl⟩, HN.out, HD.out, HBW.out⟩
theorem rnew_no (n : Int) (w : World) (h : ¬ (1 ≤ n ∧ n ≤ 16384)) :
    Calls Try.prog 25 #[.int .i64 n] w fun e w' => e = .returned (.tuple #[.pointer none, .int .i64 1]) ∧ w = w' := by
  by_cases h1 : n < 1
  · clear h
    go_enter Try.func25, Try.ntmps25
    go_wp2
    go_ret2
    exact ⟨rfl, rfl⟩
  · have h2 : (16384 : Int) < n := by omega
    clear h
    go_enter Try.func25, Try.ntmps25
    go_wp2
    go_ret2
    exact ⟨rfl, rfl⟩

end Go.Proofs.Yteaimjfpmacgeaa
