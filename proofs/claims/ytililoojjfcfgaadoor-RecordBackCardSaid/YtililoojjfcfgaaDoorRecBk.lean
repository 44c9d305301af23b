/- The law that a record that was written is read, and bytes that are one are written as they were. -/
import Derived.Test.YtililoojjfcfgaaDoorRec8
namespace Go.Proofs.YtililoojjfcfgaaDoor
open Go.RowKit
set_option linter.unusedVariables false

theorem enc_short {size ep ti co : Int} {tr li : List Int} {ln : List (List Int)} (h : canI size ep ti tr co li ln) : (encI ep ti tr co li ln).length ≤ 1000 := by
  rw [← encTo_all]; exact encTo_len h _

theorem RecV.val {w : World} {v : Value} {ep ti co : Int} {tr li : List Int} {ln : List (List Int)} (h : RecV w v ep ti tr co li ln) : ∃ ta tn tc la lc lcc ka kc, v = .agg #[.int .i64 ep, .int .i64 ti, .slice ta tn tc, .int .i64 co, .slice la lc lcc, .slice ka ln.length kc] := by
  obtain ⟨vt, vl, vk, rfl, h1, h2, h3⟩ := h
  obtain ⟨_, _, _, rfl⟩ := h1.val
  obtain ⟨_, _, _, rfl⟩ := h2.val
  obtain ⟨_, _, rfl, _, _⟩ := h3.shape
  exact ⟨_, _, _, _, _, _, _, _, rfl⟩

set_option maxRecDepth 100000 in
set_option maxHeartbeats 2000000 in
theorem recordBack_walk (size : Int) (rv : Value) (ep ti : Int) (tr : List Int) (co : Int) (li : List Int) (ln : List (List Int)) (v : Value) (bs : List Int) (w : World) (hT : TzTab w) (hz0 : -9223372036854775808 ≤ size) (hz1 : size ≤ 9223372036854775807)
    (hrB : IsB tr ∧ IsB li ∧ ∀ p ∈ ln, IsB p) (hr : RecV w rv ep ti tr co li ln) (hB : IsB bs) (hs : Sl w v (bs.map (Value.int .u8))) (hl : bs.length ≤ 140737488351232) :
    Calls Tryd.prog 3 #[.int .i64 size, rv, v] w fun e w' => e = .returned (.bool true) ∧ Below w.heap.size w w' := by
  obtain ⟨ta, tn, tc, la, lc, lcc, ka, kc, rfl⟩ := hr.val
  obtain ⟨a, cap, rfl, hcp, hmp⟩ := hs.shape
  rw [List.length_map] at *
  have hb1 : Below w.heap.size w (w.alloc (.cells #[.int .i64 ep, .int .i64 ti, .slice ta tn tc, .int .i64 co, .slice la lc lcc, .slice ka ln.length kc] 25)) := (Below.refl _ _).alloc (Nat.le_refl _) _
  have kR := Blk.new w 25 #[.int .i64 ep, .int .i64 ti, .slice ta tn tc, .int .i64 co, .slice la lc lcc, .slice ka ln.length kc]
  have HR := Lib.hid hr
  have HS := Lib.hid hs
  have HT := Lib.hid hT
  have HB := Lib.hid hB
  have HRB := Lib.hid hrB
  have HLL := Lib.hid hl
  generalize hw1 : (w.alloc (.cells #[.int .i64 ep, .int .i64 ti, .slice ta tn tc, .int .i64 co, .slice la lc lcc, .slice ka ln.length kc] 25)) = w1 at *
  obtain ⟨c0, c1, c2, c3, c4, c5⟩ := rec6 kR
  have HE := Lib.hid (enc_any size ep ti tr co li ln _ w1 hz0 hz1 (hr.below hb1 (Nat.le_refl _)) (hT.below hb1))
  clear hr hs hT hB hrB hl

  by_cases hC : canI size ep ti tr co li ln
  · rw [show codeE size ep ti tr co li ln = 0 from by unfold codeE; rw [if_pos hC], show contE size ep ti tr co li ln = encI ep ti tr co li ln from by unfold contE; rw [if_pos hC]] at HE
    have HIB := Lib.hid (encI_isB hC HRB.out.1 HRB.out.2.1 HRB.out.2.2)
    have HLE := Lib.hid (enc_short hC)
    have HOK := Lib.hid (dec_enc_ok hC)
    have HDD := Lib.hid (dec_enc size (Int.le_refl _) hC)
    clear hC
    generalize encI ep ti tr co li ln = en at *
    go_enter Tryd.func3, Tryd.ntmps3
    go_wp2_with fail
    refine HE.out.mono ?_
    rintro e w2 ⟨x2, rfl, hx2, hb2⟩
    have hbr := below_trans2 hb1 hb2
    have kR2 := kR.belowS hb2
    have HDE := Lib.hid (dec_any size x2 en w2 hz0 hz1 (by have := HLE.out; omega) HIB.out hx2 (HT.out.below hbr))
    clear hw1 HE hb2 c0 c1 c2 c3 c4 c5 kR hx2
    go_wp2_with fail
    refine HDE.out.mono ?_
    rintro e w3 ⟨x3, rfl, hok3, hno3, hb3⟩
    have hR3 := hok3 HOK.out
    rw [show decC size en = 0 from by unfold decC; rw [if_pos HOK.out]]
    rw [HDD.out.1, HDD.out.2.1, HDD.out.2.2.1, HDD.out.2.2.2.1, HDD.out.2.2.2.2.1, HDD.out.2.2.2.2.2] at hR3
    simp only at hR3
    have hbr := below_trans2 hbr hb3
    have kR3 := kR2.belowS hb3
    clear hok3 hno3 HDE kR2 hb3
    obtain ⟨ya, yn, yc, za, zc, zcc, qa, qc, rfl⟩ := hR3.val
    have hbA : Below w3.heap.size w3 (w3.alloc (.cells #[.int .i64 ep, .int .i64 ti, .slice ya yn yc, .int .i64 co, .slice za zc zcc, .slice qa ln.length qc] 25)) := (Below.refl _ _).alloc (Nat.le_refl _) _
    have hbr := below_trans2 hbr hbA
    have kR4 := kR3.belowS hbA
    obtain ⟨c0, c1, c2, c3, c4, c5⟩ := rec6 kR4
    have HSM := Lib.hid (rsame_any _ _ ep ti tr co li ln _ (hR3.below hbA (Nat.le_refl _)) (HR.out.below hbr (Nat.le_refl _)))
    clear hR3 hbA kR3 kR4
    go_wp2_with fail
    generalize (w3.alloc (.cells #[.int .i64 ep, .int .i64 ti, .slice ya yn yc, .int .i64 co, .slice za zc zcc, .slice qa ln.length qc] 25)) = w4 at *
    refine HSM.out.mono ?_
    rintro e w5 ⟨rfl, hb5⟩
    have hbr := below_trans2 hbr hb5
    clear HSM hb5 c0 c1 c2 c3 c4 c5
    have HDE := Lib.hid (dec_any size (.slice a bs.length cap) bs w5 hz0 hz1 HLL.out HB.out (HS.out.below hbr (Nat.le_refl _)) (HT.out.below hbr))
    go_wp2_with fail
    refine HDE.out.mono ?_
    rintro e w8 ⟨x8, rfl, hok8, hno8, hb8⟩
    have hbr := below_trans2 hbr hb8
    clear HDE
    by_cases hD : decOk size bs
    · have hR8 := hok8 hD
      rw [show decC size bs = 0 from by unfold decC; rw [if_pos hD]]
      obtain ⟨ya, yn, yc, za, zc, zcc, qa, qc, rfl⟩ := hR8.val
      have hbA : Below w8.heap.size w8 (w8.alloc (.cells #[.int .i64 (d1 bs).1, .int .i64 (d2 bs).1, .slice ya yn yc, .int .i64 (d4 size bs).1, .slice za zc zcc, .slice qa (d6 size bs).1.length qc] 25)) := (Below.refl _ _).alloc (Nat.le_refl _) _
      have HE9 := Lib.hid (enc_any size _ _ _ _ _ _ _ _ hz0 hz1 (hR8.below hbA (Nat.le_refl _)) (HT.out.below (below_trans2 hbr hbA)))
      rw [show codeE size (d1 bs).1 (d2 bs).1 (d3 size bs).1 (d4 size bs).1 (d5 size bs).1 (d6 size bs).1 = 0 from by unfold codeE; rw [if_pos hD.2.2.1], show contE size (d1 bs).1 (d2 bs).1 (d3 size bs).1 (d4 size bs).1 (d5 size bs).1 (d6 size bs).1 = bs from by unfold contE; rw [if_pos hD.2.2.1, hD.2.2.2]] at HE9
      clear hok8 hno8 hD hR8
      have hbr := below_trans2 hbr hbA
      go_wp2_with fail
      refine HE9.out.mono ?_
      rintro e w9 ⟨x9, rfl, hx9, hb9⟩
      have hbr := below_trans2 hbr hb9
      have HEQ := Lib.hid (bytesEq_same x9 _ bs w9 hx9 (HS.out.below hbr (Nat.le_refl _)) HB.out)
      have HAW := Lib.hid (awake13_any w9 (HT.out.below hbr))
      clear HE9 hx9 hb9
      go_wp2_with fail
      refine HEQ.out.mono ?_
      rintro e w10 ⟨rfl, rfl⟩
      go_wp2_with fail
      refine HAW.out.mono ?_
      rintro e w11 ⟨rfl, hb11⟩
      have hbr := below_trans2 hbr hb11
      go_wp2
      go_ret
      exact ⟨rfl, hbr⟩
    · have hx8 := hno8 hD
      rw [show decC size bs = 5 from by unfold decC; rw [if_neg hD]]
      subst hx8
      have hbA : Below w8.heap.size w8 (w8.alloc (.cells #[.int .i64 0, .int .i64 0, .slice none 0 0, .int .i64 0, .slice none 0 0, .slice none 0 0] 25)) := (Below.refl _ _).alloc (Nat.le_refl _) _
      have hbr := below_trans2 hbr hbA
      have HAW := Lib.hid (awake13_any _ (HT.out.below hbr))
      clear hok8 hno8 hD
      go_wp2_with fail
      refine HAW.out.mono ?_
      rintro e w11 ⟨rfl, hb11⟩
      have hbr := below_trans2 hbr hb11
      go_wp2
      go_ret
      exact ⟨rfl, hbr⟩
  · rw [show codeE size ep ti tr co li ln = 1 from by unfold codeE; rw [if_neg hC], show contE size ep ti tr co li ln = [] from by unfold contE; rw [if_neg hC]] at HE
    clear hC
    go_enter Tryd.func3, Tryd.ntmps3
    go_wp2_with fail
    refine HE.out.mono ?_
    rintro e w5 ⟨x2, rfl, hx2, hb2⟩
    have hbr := below_trans2 hb1 hb2
    clear hw1 HE hb2 c0 c1 c2 c3 c4 c5 kR hx2
    have HDE := Lib.hid (dec_any size (.slice a bs.length cap) bs w5 hz0 hz1 HLL.out HB.out (HS.out.below hbr (Nat.le_refl _)) (HT.out.below hbr))
    go_wp2_with fail
    refine HDE.out.mono ?_
    rintro e w8 ⟨x8, rfl, hok8, hno8, hb8⟩
    have hbr := below_trans2 hbr hb8
    clear HDE
    by_cases hD : decOk size bs
    · have hR8 := hok8 hD
      rw [show decC size bs = 0 from by unfold decC; rw [if_pos hD]]
      obtain ⟨ya, yn, yc, za, zc, zcc, qa, qc, rfl⟩ := hR8.val
      have hbA : Below w8.heap.size w8 (w8.alloc (.cells #[.int .i64 (d1 bs).1, .int .i64 (d2 bs).1, .slice ya yn yc, .int .i64 (d4 size bs).1, .slice za zc zcc, .slice qa (d6 size bs).1.length qc] 25)) := (Below.refl _ _).alloc (Nat.le_refl _) _
      have HE9 := Lib.hid (enc_any size _ _ _ _ _ _ _ _ hz0 hz1 (hR8.below hbA (Nat.le_refl _)) (HT.out.below (below_trans2 hbr hbA)))
      rw [show codeE size (d1 bs).1 (d2 bs).1 (d3 size bs).1 (d4 size bs).1 (d5 size bs).1 (d6 size bs).1 = 0 from by unfold codeE; rw [if_pos hD.2.2.1], show contE size (d1 bs).1 (d2 bs).1 (d3 size bs).1 (d4 size bs).1 (d5 size bs).1 (d6 size bs).1 = bs from by unfold contE; rw [if_pos hD.2.2.1, hD.2.2.2]] at HE9
      clear hok8 hno8 hD hR8
      have hbr := below_trans2 hbr hbA
      go_wp2_with fail
      refine HE9.out.mono ?_
      rintro e w9 ⟨x9, rfl, hx9, hb9⟩
      have hbr := below_trans2 hbr hb9
      have HEQ := Lib.hid (bytesEq_same x9 _ bs w9 hx9 (HS.out.below hbr (Nat.le_refl _)) HB.out)
      have HAW := Lib.hid (awake13_any w9 (HT.out.below hbr))
      clear HE9 hx9 hb9
      go_wp2_with fail
      refine HEQ.out.mono ?_
      rintro e w10 ⟨rfl, rfl⟩
      go_wp2_with fail
      refine HAW.out.mono ?_
      rintro e w11 ⟨rfl, hb11⟩
      have hbr := below_trans2 hbr hb11
      go_wp2
      go_ret
      exact ⟨rfl, hbr⟩
    · have hx8 := hno8 hD
      rw [show decC size bs = 5 from by unfold decC; rw [if_neg hD]]
      subst hx8
      have hbA : Below w8.heap.size w8 (w8.alloc (.cells #[.int .i64 0, .int .i64 0, .slice none 0 0, .int .i64 0, .slice none 0 0, .slice none 0 0] 25)) := (Below.refl _ _).alloc (Nat.le_refl _) _
      have hbr := below_trans2 hbr hbA
      have HAW := Lib.hid (awake13_any _ (HT.out.below hbr))
      clear hok8 hno8 hD
      go_wp2_with fail
      refine HAW.out.mono ?_
      rintro e w11 ⟨rfl, hb11⟩
      have hbr := below_trans2 hbr hb11
      go_wp2
      go_ret
      exact ⟨rfl, hbr⟩

end Go.Proofs.YtililoojjfcfgaaDoor
