/- The walk of awake of the layer of devices. -/
import Derived.Test.YteaimjfpmacgeaaDvR
import Derived.Test.YteaimjfpmacgeaaDvT
namespace Go.Proofs.Yteaimjfpmacgeaa
open Go.RowKit
set_option linter.unusedVariables false

set_option maxRecDepth 100000 in
theorem dawake_init : (newD 2).wrE 1 (List.replicate 64 7) = 0 ∧ (((newD 2).wrote 1 (List.replicate 64 7)).crash []).rdE 1 = 0 ∧ (((newD 2).wrote 1 (List.replicate 64 7)).crash []).rd 1 = List.replicate 64 0 ∧ (((newD 2).wrote 1 (List.replicate 64 7)).crash []).changes = 1 := by
  refine ⟨?_, ?_, ?_, ?_⟩ <;> decide +kernel

set_option maxRecDepth 100000 in
set_option maxHeartbeats 2000000 in
theorem deviceAwake_any (w : World) : Calls Try.prog 24 #[] w fun e w' => e = .returned (.bool true) ∧ Below w.heap.size w w' := by
  have HNW := Lib.hid (dnew_ok 2 w (by omega) (by omega))
  have HIN := Lib.hid dawake_init
  have hB7 : IsB (List.replicate 64 (7 : Int)) := fun x hx => by obtain ⟨_, rfl⟩ := List.mem_replicate.1 hx; omega
  have hB0 : IsB (List.replicate 64 (0 : Int)) := fun x hx => by obtain ⟨_, rfl⟩ := List.mem_replicate.1 hx; omega
  have HB7 := Lib.hid hB7
  have HB0 := Lib.hid hB0
  have hmk := run_make64
  clear hB7 hB0
  obtain ⟨S, hS⟩ : ∃ S : List Int, S = List.replicate 64 7 := ⟨_, rfl⟩
  obtain ⟨Z, hZ⟩ : ∃ Z : List Int, Z = List.replicate 64 0 := ⟨_, rfl⟩
  rw [← hS, ← hZ] at HIN
  rw [← hS] at HB7
  rw [← hZ] at HB0
  have HS := Lib.hid hS
  have HZ := Lib.hid hZ
  clear hS hZ
  go_enter Try.func24, Try.ntmps24
  go_wp2_with fail
  refine HNW.out.mono ?_
  rintro e w1 ⟨g, b, rfl, hg, hb, hD1, hb1⟩
  have hbL : Below w1.heap.size w1 (w1.alloc (.cells #[.int .u8 7] 5)) := (Below.refl _ _).alloc (Nat.le_refl _) _
  have HRP := Lib.hid (repeat_any 7 64 _ _ (by omega) (by omega) (Sl.lit w1 #[.int .u8 7] 5 (by simp [maxLen])))
  clear HNW
  go_wp2_with fail
  refine HRP.out.mono ?_
  rintro e w2 ⟨rfl, hx2, ⟨cur, kx2⟩, hb2⟩
  rw [← HS.out] at hx2
  have hbw2 : Below w1.heap.size w1 w2 := below_trans2 hbL hb2
  have hD2 := hD1.below hbw2
  have hbww2 := below_trans2 hb1 hbw2
  have hsz : w1.heap.size < (w1.alloc (.cells #[.int .u8 7] 5)).heap.size := by simp
  generalize (w1.alloc (.cells #[.int .u8 7] 5)).heap.size = n2 at *
  have HWR := Lib.hid (dwrite_any w2 g b (newD 2) 1 _ S hD2 HB7.out hx2 (fun o n c hn e => by
    injection e with e1 e2 e3
    injection e1 with e1
    injection e1 with e1
    have := hD1.row.lt
    omega))
  rw [HIN.out.1] at HWR
  clear HRP hbL hb2 hbw2 hb1 hD1 kx2 hsz
  go_wp2_with fail
  refine HWR.out.mono ?_
  rintro e w3 ⟨rfl, hD3, hO3⟩
  have hbw3 := Only.belowOf hbww2 hO3 hbww2.size (by simp; omega)
  have HCR := Lib.hid (dcrash_any w3 g b _ (.slice none 0 0) [] hD3 (Sl.nil _) (fun o n c hn e => by injection e with e1 e2 e3; cases e1))
  clear HWR hO3 hx2 hD2 hbww2
  go_wp2_with fail
  refine HCR.out.mono ?_
  rintro e w4 ⟨rfl, hD4, hO4⟩
  have hbw4 := Only.belowOf hbw3 hO4 hbw3.size (by simp; omega)
  have HI := Lib.hid HIN.out.2
  generalize ((newD 2).wrote 1 S).crash [] = d4 at *
  have HRD := Lib.hid (dread_any w4 g b d4 1 hD4)
  rw [HI.out.1, HI.out.2.1] at HRD
  clear HCR hO4 hbw3 hD3 HIN
  go_wp2_with fail
  refine HRD.out.mono ?_
  rintro e w5 ⟨y, rfl, hy, hb5⟩
  have hD5 := hD4.below hb5
  have hbw5 := below_trans2 hbw4 hb5
  obtain ⟨ya, yn, yc, rfl⟩ := hy.sl.val
  have hbM : Below w5.heap.size w5 (w5.alloc (.cells z64 5)) := (Below.refl _ _).alloc (Nat.le_refl _) _
  have hZ : Sl (w5.alloc (.cells z64 5)) (.slice (some ⟨w5.heap.size, 0, none⟩) 64 64) (Z.map (Value.int .u8)) := by
    have h := Sl.lit w5 z64 5 (by simp [z64, maxLen])
    have e : z64.toList = Z.map (Value.int .u8) := by rw [HZ.out]; simp [z64]
    rw [e] at h
    have es : z64.size = 64 := by simp [z64]
    rw [es] at h
    exact h
  have hy6 := hy.sl.below hbM (Nat.le_refl _)
  have hD6 := hD5.below hbM
  have hbw6 := below_trans2 hbw5 hbM
  have HEQ := Lib.hid (bytesEq_any _ _ Z Z _ hy6 hZ HB0.out HB0.out)
  rw [decide_eq_true rfl] at HEQ
  have HCH := Lib.hid (dchanges_any _ g b d4 hD6)
  rw [HI.out.2.2] at HCH
  clear hy hb5 hD5 hD4 hbw4 hbw5 hy6 hZ hbM hD6 HRD
  go_wp2_with fail
  refine HEQ.out.mono ?_
  rintro e w7 ⟨rfl, rfl⟩
  go_wp2_with fail
  refine HCH.out.mono ?_
  rintro e w8 ⟨rfl, rfl⟩
  go_wp2
  go_ret
  exact ⟨rfl, hbw6⟩

end Go.Proofs.Yteaimjfpmacgeaa
