
/- Records: the reference's Encode. -/
import Derived.Test.YtjhannlioddkkaaDoorRec3
import Derived.Test.YtjhannlioddkkaaDoorRecM
import Derived.Test.YtjhannlioddkkaaDoorCodecR
import Derived.Deep.RegionHeld3
namespace Go.Proofs.YtjhannlioddkkaaDoor
open Go.RowKit
set_option linter.unusedVariables false

theorem ruint_e0 (n : Int) (w : World) (h0 : 0 ≤ n) (h1 : n ≤ 4611686018427387904) :
    Calls Tryd.prog 53 #[.slice none 0 0, .int .i64 n] w fun e w' => ∃ v', e = .returned v' ∧ Sl w' v' ((uintN n.toNat).map (Value.int .u8)) ∧ Below w.heap.size w w' :=
  (ruint_any (.slice none 0 0) [] n w (by simp) (Sl.nil _) h0 h1).mono fun e w' ⟨v', he, ho, hb⟩ => ⟨v', he, by simpa using Sl.of_owns ho, hb⟩

set_option maxRecDepth 100000 in
set_option maxHeartbeats 4000000 in
theorem renc_any (size ep ti : Int) (tr : List Int) (co : Int) (li : List Int) (ln : List (List Int)) (v : Value) (w : World) (hz0 : -9223372036854775808 ≤ size) (hz1 : size ≤ 9223372036854775807) (hr : RecV w v ep ti tr co li ln) :
    Calls Tryd.prog 60 #[.int .i64 size, v] w fun e w' => ∃ x, e = .returned (.tuple #[x, .int .i64 (codeE size ep ti tr co li ln)]) ∧ Sl w' x ((contE size ep ti tr co li ln).map (Value.int .u8)) ∧ Below w.heap.size w w' := by
  obtain ⟨vt, vl, vk, rfl, ht, hl, hk⟩ := hr
  obtain ⟨ta, tn, tc, rfl⟩ := ht.val
  obtain ⟨la, lc, lcc, rfl⟩ := hl.val
  obtain ⟨ka, kc, rfl, hkc, hkm⟩ := hk.shape
  have hb1 : Below w.heap.size w (w.alloc (.cells #[.int .i64 ep, .int .i64 ti, .slice ta tn tc, .int .i64 co, .slice la lc lcc, .slice ka ln.length kc] 35)) := (Below.refl _ _).alloc (Nat.le_refl _) _
  have kR := Blk.new w 35 #[.int .i64 ep, .int .i64 ti, .slice ta tn tc, .int .i64 co, .slice la lc lcc, .slice ka ln.length kc]
  have ht1 := ht.below hb1 (Nat.le_refl _)
  have hl1 := hl.below hb1 (Nat.le_refl _)
  have hk1 := hk.below hb1 (Nat.le_refl _)
  generalize hw1 : (w.alloc (.cells #[.int .i64 ep, .int .i64 ti, .slice ta tn tc, .int .i64 co, .slice la lc lcc, .slice ka ln.length kc] 35)) = w1 at *
  have HCN := Lib.hid (rcan_any size ep ti tr co li ln _ w1 hz0 hz1 ⟨_, _, _, rfl, ht1, hl1, hk1⟩)
  obtain ⟨c0, c1, c2, c3, c4, c5⟩ := rec6 kR
  by_cases hC : canI size ep ti tr co li ln
  · rw [decide_eq_true hC] at HCN
    have HE := Lib.hid (show codeE size ep ti tr co li ln = 0 ∧ contE size ep ti tr co li ln = encI ep ti tr co li ln from ⟨by unfold codeE; rw [if_pos hC], by unfold contE; rw [if_pos hC]⟩)
    have HLN := Lib.hid (encTo_len hC)
    have hep := hC.2.1
    have hti := hC.2.2.1
    have hco := hC.2.2.2.1
    have HHC := Lib.hid hC
    have HKK := Lib.hid hk
    clear ht hl hk hC
    go_enter Tryd.func60, Tryd.ntmps60
    go_wp2_with fail
    refine HCN.out.mono ?_
    rintro e w2 ⟨rfl, hb2⟩
    clear hw1 c0 c1 c2 c3 c4 c5
    have kR := kR.belowS hb2
    have ht1 := ht1.below hb2 (Nat.le_refl _)
    have hl1 := hl1.below hb2 (Nat.le_refl _)
    have hk1 := hk1.below hb2 (Nat.le_refl _)
    have hbr := hb1.trans (hb2.mono hb1.size)
    clear hb1 hb2 HCN
    have hS : World → Prop := fun _ => True
    have HGK := Lib.hid (fun w' (h : Below w2.heap.size w2 w') => rec6 (kR.belowS h))
    have HGT := Lib.hid (fun w' (h : Below w2.heap.size w2 w') => ht1.below h (Nat.le_refl _))
    have HGL := Lib.hid (fun w' (h : Below w2.heap.size w2 w') => hl1.below h (Nat.le_refl _))
    have hl0 := HLN.out 0
    have HL0 := Lib.hid hl0
    clear hl0 hS
    have HA3 := Lib.hid (show (uintN ep.toNat).length ≤ 1000 by have := HL0.out; unfold encTo at this; simp only [List.length_append] at this ⊢; omega)
    have HA4 := Lib.hid (show ((uintN ep.toNat ++ uintN ti.toNat)).length ≤ 1000 by have := HL0.out; unfold encTo at this; simp only [List.length_append] at this ⊢; omega)
    have HA5 := Lib.hid (show (((uintN ep.toNat ++ uintN ti.toNat) ++ bytesI tr)).length ≤ 1000 by have := HL0.out; unfold encTo at this; simp only [List.length_append] at this ⊢; omega)
    have HA6 := Lib.hid (show ((((uintN ep.toNat ++ uintN ti.toNat) ++ bytesI tr) ++ uintN co.toNat)).length ≤ 1000 by have := HL0.out; unfold encTo at this; simp only [List.length_append] at this ⊢; omega)
    have HXT := Lib.hid (show tr.length ≤ 1000 by have h1 := HHC.out.1; have h2 := HHC.out.2.2.2.2.1; omega)
    have HXL := Lib.hid (show li.length ≤ 1000 by have h1 := HHC.out.1; have h2 := HHC.out.2.2.2.2.1; omega)
    have HU1 := Lib.hid (fun w' (h : Below w2.heap.size w2 w') => ruint_e0 ep w' hep.1 (by omega))
    have HU2 := Lib.hid (fun v w' (hv : Sl w' v ((uintN ep.toNat).map (Value.int .u8))) => ruint_any v (uintN ep.toNat) ti w' (Nat.le_trans HA3.out (by decide)) hv hti.1 (by omega))
    have HU3 := Lib.hid (fun v w' (h : Below w2.heap.size w2 w') (hv : Sl w' v ((uintN ep.toNat ++ uintN ti.toNat).map (Value.int .u8))) => rbytes_any v (uintN ep.toNat ++ uintN ti.toNat) _ tr w' (by have := HA4.out; have := HXT.out; omega) hv (HGT.out w' h))
    have HU4 := Lib.hid (fun v w' (hv : Sl w' v (((uintN ep.toNat ++ uintN ti.toNat) ++ bytesI tr).map (Value.int .u8))) => ruint_any v ((uintN ep.toNat ++ uintN ti.toNat) ++ bytesI tr) co w' (Nat.le_trans HA5.out (by decide)) hv hco.1 (by omega))
    have HU5 := Lib.hid (fun v w' (h : Below w2.heap.size w2 w') (hv : Sl w' v ((((uintN ep.toNat ++ uintN ti.toNat) ++ bytesI tr) ++ uintN co.toNat).map (Value.int .u8))) => rbytes_any v (((uintN ep.toNat ++ uintN ti.toNat) ++ bytesI tr) ++ uintN co.toNat) _ li w' (by have := HA6.out; have := HXL.out; omega) hv (HGL.out w' h))
    have hG : Hid (w2.cell? ⟨w.heap.size, 0, none⟩ = some (.int .i64 ep) ∧ w2.cell? ⟨w.heap.size, 1, none⟩ = some (.int .i64 ti)) := ⟨(HGK.out _ (Below.refl _ _)).1, (HGK.out _ (Below.refl _ _)).2.1⟩
    clear kR ht1 hl1 hk1
    go_wp2
    go_region_held3 (fun w' => w'.cell? ⟨w.heap.size, 0, none⟩ = some (.int .i64 ep) ∧ w'.cell? ⟨w.heap.size, 1, none⟩ = some (.int .i64 ti)) (exact hG.out) (first | (go_at_call 53; refine (HU2.out v3 _ ho3).mono ?_; rintro e w4 ⟨v4, rfl, ho4, hb4⟩; have hb4 := below_trans2 hb3 hb4; have ho4 := Sl.of_owns ho4; have hG : Hid (w4.cell? ⟨w.heap.size, 0, none⟩ = some (.int .i64 ep) ∧ w4.cell? ⟨w.heap.size, 1, none⟩ = some (.int .i64 ti)) := ⟨(HGK.out _ hb4).1, (HGK.out _ hb4).2.1⟩) | (go_at_call 53; refine (HU1.out _ (by first | exact Below.refl _ _ | exact (Below.refl _ _).drew)).mono ?_; rintro e w3 ⟨v3, rfl, ho3, hb3⟩; have hb3 : Below w2.heap.size w2 w3 := ⟨hb3.os, hb3.tape, hb3.output, hb3.size, hb3.block⟩; have hG : Hid (w3.cell? ⟨w.heap.size, 0, none⟩ = some (.int .i64 ep) ∧ w3.cell? ⟨w.heap.size, 1, none⟩ = some (.int .i64 ti)) := ⟨(HGK.out _ hb3).1, (HGK.out _ hb3).2.1⟩))
    have hG : Hid (w4.cell? ⟨w.heap.size, 2, none⟩ = some (.slice ta tn tc) ∧ w4.cell? ⟨w.heap.size, 3, none⟩ = some (.int .i64 co)) := ⟨(HGK.out _ hb4).2.2.1, (HGK.out _ hb4).2.2.2.1⟩
    have HB4 := Lib.hid hb4
    have HO4 := Lib.hid ho4
    clear hb4 ho4 hb3 ho3
    go_wp2
    go_region_held3 (fun w' => w'.cell? ⟨w.heap.size, 2, none⟩ = some (.slice ta tn tc) ∧ w'.cell? ⟨w.heap.size, 3, none⟩ = some (.int .i64 co)) (exact hG.out) (first | (go_at_call 53; refine (HU4.out v5 _ ho5).mono ?_; rintro e w6 ⟨v6, rfl, ho6, hb6⟩; have hb6 := below_trans2 hb5 hb6; have ho6 := Sl.of_owns ho6; have hG : Hid (w6.cell? ⟨w.heap.size, 2, none⟩ = some (.slice ta tn tc) ∧ w6.cell? ⟨w.heap.size, 3, none⟩ = some (.int .i64 co)) := ⟨(HGK.out _ hb6).2.2.1, (HGK.out _ hb6).2.2.2.1⟩) | (go_at_call 62; refine (HU3.out v4 _ (by first | exact HB4.out | exact HB4.out.drew) (by first | exact HO4.out | exact HO4.out.below (Below.refl _ _).drew (Nat.le_refl _))).mono ?_; rintro e w5 ⟨v5, rfl, ho5, hb5⟩; have hb5 : Below w2.heap.size w2 w5 := (by first | exact below_trans2 HB4.out hb5 | exact below_trans2 HB4.out.drew hb5); have ho5 := Sl.of_owns ho5; have hG : Hid (w5.cell? ⟨w.heap.size, 2, none⟩ = some (.slice ta tn tc) ∧ w5.cell? ⟨w.heap.size, 3, none⟩ = some (.int .i64 co)) := ⟨(HGK.out _ hb5).2.2.1, (HGK.out _ hb5).2.2.2.1⟩))
    have c4 := (HGK.out _ hb6).2.2.2.2.1
    clear hb5 ho5 HO4 HB4
    have HB6 := Lib.hid hb6
    have HO6 := Lib.hid ho6
    clear hb6 ho6
    go_wp2_with fail
    refine (HU5.out v6 _ HB6.out HO6.out).mono ?_
    rintro e w7 ⟨b7, rfl, ho7, hb7⟩
    have hs7 : Sl w7 b7 (((((uintN ep.toNat ++ uintN ti.toNat) ++ bytesI tr) ++ uintN co.toNat) ++ bytesI li).map (Value.int .u8)) := by exact Sl.of_owns ho7
    have hb7 := below_trans2 HB6.out hb7
    have hbr := hbr.trans (hb7.mono hbr.size)
    have c5 := (HGK.out _ hb7).2.2.2.2.2
    clear ho7 hb7 HO6 HB6 c4
    have hs7' : Sl w7 b7 ((encTo ep ti tr co li ln 0).map (Value.int .u8)) := by
      have e : encTo ep ti tr co li ln 0 = ((((uintN ep.toNat ++ uintN ti.toNat) ++ bytesI tr) ++ uintN co.toNat) ++ bytesI li) := by unfold encTo; simp
      rw [e]; exact hs7
    clear hs7
    go_wp2
    go_loopw [6, 33] (fun b i wr => ∃ (k : Nat) (bv : Value), bv = b ∧ k ≤ ln.length ∧ i = .int .i64 k ∧ Sl wr bv ((encTo ep ti tr co li ln k).map (Value.int .u8)) ∧ Below w.heap.size w wr) (fun _ i _ => ln.length - (intOf i).toNat)
    case atStart => exact ⟨0, _, rfl, by omega, rfl, hs7', hbr⟩
    case round =>
      clear hs7' hbr
      obtain ⟨k, bv, rfl, hk, rfl, hsv, hbr⟩ := hrel
      obtain ⟨ba, bn, bc, rfl⟩ := hsv.val
      by_cases hlt : k < ln.length
      · have hkI : (k : Int) < (ln.length : Int) := by omega
        obtain ⟨b, off, rfl, hbl, u, hu, hsu⟩ := (HKK.out.below hbr (Nat.le_refl _)).at hlt
        have HST := Lib.hid (encTo_succ ep ti tr co li ln k hlt)
        have HLP := Lib.hid (show (ln.getD k []).length ≤ 1000 by
          rw [List.getD_eq_getElem?_getD, List.getElem?_eq_getElem hlt]
          have h1 := HHC.out.1
          have h2 := HHC.out.2.2.2.2.2.2 _ (List.getElem_mem hlt)
          simp only [Option.getD_some]; omega)
        have HLT := Lib.hid (HLN.out k)
        generalize ln.getD k [] = P at *
        obtain ⟨ua, un, uc, rfl⟩ := hsu.val
        have HU := Lib.hid (rbytes_any (.slice ba bn bc) (encTo ep ti tr co li ln k) (.slice ua un uc) P wr (by have h1 := HLT.out; have h2 := HLP.out; omega) hsv hsu)
        clear hsv hsu
        go_wp2_with fail
        refine HU.out.mono ?_
        rintro e w9 ⟨b9, rfl, ho9, hb9⟩
        have hs9 := Sl.of_owns ho9
        have hbr := hbr.trans (hb9.mono hbr.size)
        clear ho9 hb9 HU
        go_wp2
        exact ⟨⟨k + 1, b9, rfl, by omega, by go_num, by rw [HST.out]; exact hs9, hbr⟩, by simp [intOf]; omega⟩
      · obtain rfl : k = ln.length := by omega
        have hkI : ¬ (ln.length : Int) < (ln.length : Int) := by omega
        rw [encTo_all] at hsv
        go_wp2
        go_ret2
        rw [HE.out.1, HE.out.2]
        exact ⟨_, rfl, hsv, hbr⟩
  · rw [decide_eq_false hC] at HCN
    have HE := Lib.hid (show codeE size ep ti tr co li ln = 1 ∧ contE size ep ti tr co li ln = [] from ⟨by unfold codeE; rw [if_neg hC], by unfold contE; rw [if_neg hC]⟩)
    clear ht hl hk hC ht1 hl1 hk1
    go_enter Tryd.func60, Tryd.ntmps60
    go_wp2_with fail
    refine HCN.out.mono ?_
    rintro e w2 ⟨rfl, hb2⟩
    clear hw1
    have hbr := hb1.trans (hb2.mono hb1.size)
    go_wp2
    go_ret2
    rw [HE.out.1, HE.out.2]
    exact ⟨_, rfl, Sl.nil _, hbr⟩

end Go.Proofs.YtjhannlioddkkaaDoor
