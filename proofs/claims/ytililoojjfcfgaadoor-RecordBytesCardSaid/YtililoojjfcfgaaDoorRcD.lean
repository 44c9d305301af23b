/- The law of records' bytes. -/
import Derived.Test.YtililoojjfcfgaaDoorRcC
import Derived.Test.YtililoojjfcfgaaDoorRcB
import Derived.Test.YtililoojjfcfgaaDoorShaJ
import Derived.Deep.RegionHeld3
namespace Go.Proofs.YtililoojjfcfgaaDoor
open Go.RowKit
set_option linter.unusedVariables false

theorem decC_eq (size : Int) (bs : List Int) (hB : IsB bs) : rdecC size bs = decC size bs := by
  unfold rdecC decC
  by_cases h : decOk size bs
  · rw [if_pos h, if_pos (ok_ref size bs h).1]
  · rw [if_neg h, if_neg (fun k => h (ref_ok size bs hB k))]

/-- What both read is the same. -/
theorem same_read {size : Int} {bs : List Int} (hB : IsB bs) {w w1 w2 w3 : World} {x y : Value} (h1 : DecRes w w1 size bs x) (h2 : RDecRes w2 w3 size bs y) (hb : Below w1.heap.size w1 w3) :
    ∃ ep ti tr co li ln, RecV w3 x ep ti tr co li ln ∧ RecV w3 y ep ti tr co li ln := by
  by_cases h : decOk size bs
  · obtain ⟨k1, k2, k3, k4, k5⟩ := ok_ref size bs h
    have r1 := h1.1 h
    have r2 := h2.1 k1
    rw [k2, k3, k4, k5] at r2
    exact ⟨_, _, _, _, _, _, r1.below hb (Nat.le_refl _), r2⟩
  · have e1 := h1.2.1 h
    have e2 := h2.2.1 (fun k => h (ref_ok size bs hB k))
    subst e1 e2
    exact ⟨0, 0, [], 0, [], [], ⟨_, _, _, rfl, Sl.nil _, Sl.nil _, ⟨[], Sl.nil _, rfl, fun i u bs hu _ => by simp at hu⟩⟩, ⟨_, _, _, rfl, Sl.nil _, Sl.nil _, ⟨[], Sl.nil _, rfl, fun i u bs hu _ => by simp at hu⟩⟩⟩

theorem hashR_isB (size ep ti co : Int) (tr li : List Int) (ln : List (List Int)) : IsB (hashR size ep ti tr co li ln) := by
  unfold hashR
  split
  · unfold hashT
    split
    · exact cutI_isB _ _
    · intro x hx; cases hx
  · intro x hx; cases hx

set_option maxRecDepth 100000 in
set_option maxHeartbeats 4000000 in
theorem recordBytes_walk (size : Int) (rv : Value) (ep ti : Int) (tr : List Int) (co : Int) (li : List Int) (ln : List (List Int)) (v : Value) (bs : List Int) (w : World) (hTT : TzTab w ∧ Tabs w) (hz0 : -9223372036854775808 ≤ size) (hz1 : size ≤ 9223372036854775807)
    (hrB : IsB tr ∧ IsB li ∧ ∀ p ∈ ln, IsB p) (hr : RecV w rv ep ti tr co li ln) (hB : IsB bs) (hs : Sl w v (bs.map (Value.int .u8))) (hl : bs.length ≤ 140737488351232) :
    Calls Tryd.prog 9 #[.int .i64 size, rv, v] w fun e w' => e = .returned (.bool true) ∧ Below w.heap.size w w' := by
  obtain ⟨ta, tn, tc, la, lc, lcc, ka, kc, rfl⟩ := hr.val
  obtain ⟨a, cap, rfl, hcp, hmp⟩ := hs.shape
  rw [List.length_map] at *
  have hb1 : Below w.heap.size w (w.alloc (.cells #[.int .i64 ep, .int .i64 ti, .slice ta tn tc, .int .i64 co, .slice la lc lcc, .slice ka ln.length kc] 25)) := (Below.refl _ _).alloc (Nat.le_refl _) _
  have kR := Blk.new w 25 #[.int .i64 ep, .int .i64 ti, .slice ta tn tc, .int .i64 co, .slice la lc lcc, .slice ka ln.length kc]
  have HR := Lib.hid hr
  have HS := Lib.hid hs
  have HT := Lib.hid hTT.1
  have HTB := Lib.hid hTT.2
  have HB := Lib.hid hB
  have HRB := Lib.hid hrB
  have HLL := Lib.hid hl
  have HCL := Lib.hid (clone_any (.slice a bs.length cap) bs (w.alloc (.cells #[.int .i64 ep, .int .i64 ti, .slice ta tn tc, .int .i64 co, .slice la lc lcc, .slice ka ln.length kc] 25)) (by omega) (hs.below hb1 (Nat.le_refl _)))
  clear hr hs hTT hB hrB hl
  go_enter Tryd.func9, Tryd.ntmps9
  go_wp2_with fail
  refine HCL.out.mono ?_
  rintro e w2 ⟨x2, rfl, hx2, hb2⟩
  have kR := kR.belowS hb2
  have hbr := below_trans2 hb1 hb2
  clear hb1 hb2 HCL
  obtain ⟨xa, xn, xc, rfl⟩ := hx2.val
  obtain ⟨c0, c1, c2, c3, c4, c5⟩ := rec6 kR
  have HE := Lib.hid (enc_any size ep ti tr co li ln _ w2 hz0 hz1 (HR.out.below hbr (Nat.le_refl _)) (HT.out.below hbr))
  have HIC := Lib.hid (contE_isB size ep ti co tr li ln HRB.out.1 HRB.out.2.1 HRB.out.2.2)
  generalize hcE : codeE size ep ti tr co li ln = cE at *
  generalize hbE : contE size ep ti tr co li ln = bE at *
  have HcE := Lib.hid hcE
  have HbE := Lib.hid hbE
  clear hcE hbE
  go_wp2_with fail
  refine HE.out.mono ?_
  rintro e w3 ⟨x3, rfl, hx3, hb3⟩
  have kR := kR.belowS hb3
  have hx2 := hx2.below hb3 (Nat.le_refl _)
  have hbr := below_trans2 hbr hb3
  clear hb3 HE c0 c1 c2 c3 c4 c5
  obtain ⟨c0, c1, c2, c3, c4, c5⟩ := rec6 kR
  have HE := Lib.hid (renc_any size ep ti tr co li ln _ w3 hz0 hz1 (HR.out.below hbr (Nat.le_refl _)))
  rw [HcE.out, HbE.out] at HE
  go_wp2_with fail
  refine HE.out.mono ?_
  rintro e w4 ⟨x4, rfl, hx4, hb4⟩
  have kR := kR.belowS hb4
  have hx2 := hx2.below hb4 (Nat.le_refl _)
  have hx3 := hx3.below hb4 (Nat.le_refl _)
  have hbr := below_trans2 hbr hb4
  clear hb4 HE c0 c1 c2 c3 c4 c5
  have HE := Lib.hid (dec_any size (.slice xa xn xc) bs w4 hz0 hz1 HLL.out HB.out hx2 (HT.out.below hbr))
  go_wp2_with fail
  refine HE.out.mono ?_
  rintro e w5 ⟨x5, rfl, hD5⟩
  have hb5 := hD5.2.2
  have kR := kR.belowS hb5
  have hx2 := hx2.below hb5 (Nat.le_refl _)
  have hx3 := hx3.below hb5 (Nat.le_refl _)
  have hx4 := hx4.below hb5 (Nat.le_refl _)
  have hbr := below_trans2 hbr hb5
  clear hb5 HE
  have hq5 : ∃ p0 p1 p2 p3 p4 p5 p6 p7 p8 p9 q0 q1, x5 = .agg #[.int .i64 p0, .int .i64 p1, .slice p2 p3 p4, .int .i64 p5, .slice p6 p7 p8, .slice p9 q0 q1] := by
    by_cases h : decOk size bs
    · obtain ⟨_, _, _, _, _, _, _, _, h⟩ := (hD5.1 h).val; exact ⟨_, _, _, _, _, _, _, _, _, _, _, _, h⟩
    · exact ⟨_, _, _, _, _, _, _, _, _, _, _, _, hD5.2.1 h⟩
  obtain ⟨p0, p1, p2, p3, p4, p5, p6, p7, p8, p9, q0, q1, rfl⟩ := hq5
  have hbA : Below w5.heap.size w5 (w5.alloc (.cells #[.int .i64 p0, .int .i64 p1, .slice p2 p3 p4, .int .i64 p5, .slice p6 p7 p8, .slice p9 q0 q1] 25)) := (Below.refl _ _).alloc (Nat.le_refl _) _
  have k5 := Blk.new w5 25 #[.int .i64 p0, .int .i64 p1, .slice p2 p3 p4, .int .i64 p5, .slice p6 p7 p8, .slice p9 q0 q1]
  have kR := kR.belowS hbA
  have hx2 := hx2.below hbA (Nat.le_refl _)
  have hx3 := hx3.below hbA (Nat.le_refl _)
  have hx4 := hx4.below hbA (Nat.le_refl _)
  have hbr := below_trans2 hbr hbA
  have HE := Lib.hid (rdec_any size (.slice a bs.length cap) bs (w5.alloc (.cells #[.int .i64 p0, .int .i64 p1, .slice p2 p3 p4, .int .i64 p5, .slice p6 p7 p8, .slice p9 q0 q1] 25)) hz0 hz1 HLL.out HB.out (HS.out.below hbr (Nat.le_refl _)))
  rw [decC_eq size bs HB.out] at HE
  generalize decC size bs = dC at *
  have HbA := Lib.hid hbA
  clear hbA
  go_wp2_with fail
  generalize (w5.alloc (.cells #[.int .i64 p0, .int .i64 p1, .slice p2 p3 p4, .int .i64 p5, .slice p6 p7 p8, .slice p9 q0 q1] 25)) = w6 at *
  refine HE.out.mono ?_
  rintro e w7 ⟨x7, rfl, hD7⟩
  have hb7 := hD7.2.2
  have kR := kR.belowS hb7
  have k5 := k5.belowS hb7
  have hx2 := hx2.below hb7 (Nat.le_refl _)
  have hx3 := hx3.below hb7 (Nat.le_refl _)
  have hx4 := hx4.below hb7 (Nat.le_refl _)
  have hbr := below_trans2 hbr hb7
  have hq7 : ∃ p0 p1 p2 p3 p4 p5 p6 p7 p8 p9 q0 q1, x7 = .agg #[.int .i64 p0, .int .i64 p1, .slice p2 p3 p4, .int .i64 p5, .slice p6 p7 p8, .slice p9 q0 q1] := by
    by_cases h : refOk size bs
    · obtain ⟨_, _, _, _, _, _, _, _, h⟩ := (hD7.1 h).val; exact ⟨_, _, _, _, _, _, _, _, _, _, _, _, h⟩
    · exact ⟨_, _, _, _, _, _, _, _, _, _, _, _, hD7.2.1 h⟩
  obtain ⟨ep', ti', tr', co', li', ln', hv5, hv7⟩ := same_read HB.out hD5 hD7 (HbA.out.trans (hb7.mono HbA.out.size))
  clear hb7 HE hD5 hD7 HbA
  obtain ⟨r0, r1, r2, r3, r4, r5, r6, r7, r8, r9, s0, s1, rfl⟩ := hq7
  have hbB : Below w7.heap.size w7 (w7.alloc (.cells #[.int .i64 r0, .int .i64 r1, .slice r2 r3 r4, .int .i64 r5, .slice r6 r7 r8, .slice r9 s0 s1] 25)) := (Below.refl _ _).alloc (Nat.le_refl _) _
  have k7 := Blk.new w7 25 #[.int .i64 r0, .int .i64 r1, .slice r2 r3 r4, .int .i64 r5, .slice r6 r7 r8, .slice r9 s0 s1]
  have kR := kR.belowS hbB
  have k5 := k5.belowS hbB
  have hx2 := hx2.below hbB (Nat.le_refl _)
  have hx3 := hx3.below hbB (Nat.le_refl _)
  have hx4 := hx4.below hbB (Nat.le_refl _)
  have hv5 := hv5.below hbB (Nat.le_refl _)
  have hv7 := hv7.below hbB (Nat.le_refl _)
  have hbr := below_trans2 hbr hbB
  clear hbB
  go_upto_region 6 with (fail)
  generalize (w7.alloc (.cells #[.int .i64 r0, .int .i64 r1, .slice r2 r3 r4, .int .i64 r5, .slice r6 r7 r8, .slice r9 s0 s1] 25)) = W at *
  have HBR := Lib.hid hbr
  have hdr : Below W.heap.size W W.drew := (Below.refl _ _).drew
  have hdr0 : Below W.heap.size W W := Below.refl _ _
  have HSR := Lib.hid (fun w' (h : Below W.heap.size W w') => HR.out.below (below_trans2 HBR.out h) (Nat.le_refl _))
  have HQ1 := Lib.hid (fun w' (h : Below W.heap.size W w') => bytesEq_same x3 x4 bE w' (hx3.below h (Nat.le_refl _)) (hx4.below h (Nat.le_refl _)) HIC.out)
  have HQS := Lib.hid (fun w' (h : Below W.heap.size W w') => rsame_any _ _ ep' ti' tr' co' li' ln' w' (hv5.below h (Nat.le_refl _)) (hv7.below h (Nat.le_refl _)))
  have HQH := Lib.hid (fun w' (h : Below W.heap.size W w') => rhash_any size ep ti tr co li ln _ w' hz0 hz1 HRB.out (HSR.out w' h) (HT.out.below (below_trans2 HBR.out h)) (HTB.out.below (below_trans2 HBR.out h)))
  have HQI := Lib.hid (fun w' (h : Below W.heap.size W w') => refrhash_any size ep ti tr co li ln _ w' hz0 hz1 HRB.out (HSR.out w' h))
  have HQC := Lib.hid (fun w' (h : Below W.heap.size W w') => can_any size ep ti tr co li ln _ w' hz0 hz1 (HSR.out w' h) (HT.out.below (below_trans2 HBR.out h)))
  have HQD := Lib.hid (fun w' (h : Below W.heap.size W w') => rcan_any size ep ti tr co li ln _ w' hz0 hz1 (HSR.out w' h))
  have HQE := Lib.hid (fun w' (h : Below W.heap.size W w') => bytesEq_same (.slice xa xn xc) (.slice a bs.length cap) bs w' (hx2.below h (Nat.le_refl _)) (HS.out.below (below_trans2 HBR.out h) (Nat.le_refl _)) HB.out)
  have HQA := Lib.hid (fun w' (h : Below W.heap.size W w') => awake13_any w' (HT.out.below (below_trans2 HBR.out h)))
  have HIH := Lib.hid (hashR_isB size ep ti co tr li ln)
  generalize hashR size ep ti tr co li ln = HH at *
  generalize decide (canI size ep ti tr co li ln) = DC at *
  have HK := Lib.hid (fun w' (h : Below W.heap.size W w') => And.intro (rec6 (kR.belowS h)) (And.intro (rec6 (k5.belowS h)) (rec6 (k7.belowS h))))
  clear hx2 hx3 hx4 hv5 hv7 kR k5 k7 hbr HSR
  go_region_held3 (fun w' => (w'.cell? ⟨w.heap.size, 0, none⟩ = some (.int .i64 ep) ∧ w'.cell? ⟨w.heap.size, 1, none⟩ = some (.int .i64 ti) ∧ w'.cell? ⟨w.heap.size, 2, none⟩ = some (.slice ta tn tc) ∧ w'.cell? ⟨w.heap.size, 3, none⟩ = some (.int .i64 co) ∧ w'.cell? ⟨w.heap.size, 4, none⟩ = some (.slice la lc lcc) ∧ w'.cell? ⟨w.heap.size, 5, none⟩ = some (.slice ka ln.length kc)) ∧ (w'.cell? ⟨w5.heap.size, 0, none⟩ = some (.int .i64 p0) ∧ w'.cell? ⟨w5.heap.size, 1, none⟩ = some (.int .i64 p1) ∧ w'.cell? ⟨w5.heap.size, 2, none⟩ = some (.slice p2 p3 p4) ∧ w'.cell? ⟨w5.heap.size, 3, none⟩ = some (.int .i64 p5) ∧ w'.cell? ⟨w5.heap.size, 4, none⟩ = some (.slice p6 p7 p8) ∧ w'.cell? ⟨w5.heap.size, 5, none⟩ = some (.slice p9 q0 q1)) ∧ (w'.cell? ⟨w7.heap.size, 0, none⟩ = some (.int .i64 r0) ∧ w'.cell? ⟨w7.heap.size, 1, none⟩ = some (.int .i64 r1) ∧ w'.cell? ⟨w7.heap.size, 2, none⟩ = some (.slice r2 r3 r4) ∧ w'.cell? ⟨w7.heap.size, 3, none⟩ = some (.int .i64 r5) ∧ w'.cell? ⟨w7.heap.size, 4, none⟩ = some (.slice r6 r7 r8) ∧ w'.cell? ⟨w7.heap.size, 5, none⟩ = some (.slice r9 s0 s1))) (exact HK.out _ (by assumption)) (first | (go_at_call 17; refine (HQ1.out _ (by assumption)).mono ?_; rintro e w8 ⟨rfl, rfl⟩) | (go_at_call 17; refine (HQE.out _ (by assumption)).mono ?_; rintro e w8 ⟨rfl, rfl⟩) | (go_at_call 17; refine (bytesEq_same y1 y2 HH _ (HY1.out _ (by assumption)) (HY2.out _ (by assumption)) HIH.out).mono ?_; rintro e w8 ⟨rfl, rfl⟩) | (go_at_call 16; refine (HQS.out _ (by assumption)).mono ?_; rintro e ws ⟨rfl, hb_s⟩; have hc_s : Below W.heap.size W ws := below_trans2 (by assumption) hb_s; have hr_s := Below.refl ws.heap.size ws) | (go_at_call 42; refine (HQH.out _ (by assumption)).mono ?_; rintro e wh ⟨y1, rfl, hy1, hb_h⟩; have hc_h : Below W.heap.size W wh := below_trans2 (by assumption) hb_h; have hr_h := Below.refl wh.heap.size wh; have HY1 := Lib.hid (fun w' (h : Below wh.heap.size wh w') => hy1.below h (Nat.le_refl _))) | (go_at_call 43; refine (HQI.out _ (by assumption)).mono ?_; rintro e wi ⟨y2, rfl, hy2, hb_i⟩; have hc_i : Below W.heap.size W wi := below_trans2 (by assumption) hb_i; have hr_i := Below.refl wi.heap.size wi; have HY2 := Lib.hid (fun w' (h : Below wi.heap.size wi w') => hy2.below h (Nat.le_refl _))) | (go_at_call 44; refine (HQC.out _ (by assumption)).mono ?_; rintro e wc ⟨rfl, hb_c⟩; have hc_c : Below W.heap.size W wc := below_trans2 (by assumption) hb_c; have hr_c := Below.refl wc.heap.size wc) | (go_at_call 45; refine (HQD.out _ (by assumption)).mono ?_; rintro e wd ⟨rfl, hb_d⟩; have hc_d : Below W.heap.size W wd := below_trans2 (by assumption) hb_d; have hr_d := Below.refl wd.heap.size wd) | (go_at_call 18; refine (HQA.out _ (by assumption)).mono ?_; rintro e wa ⟨rfl, hb_a⟩; have hc_a : Below W.heap.size W wa := below_trans2 (by assumption) hb_a; have hr_a := Below.refl wa.heap.size wa))
  all_goals
    have hbZ := below_trans2 HBR.out hc_a
    go_wp2
    go_ret
    exact ⟨rfl, hbZ⟩

end Go.Proofs.YtililoojjfcfgaaDoor
