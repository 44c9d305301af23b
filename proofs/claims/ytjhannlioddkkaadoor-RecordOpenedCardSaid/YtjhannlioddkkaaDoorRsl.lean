
/- Signed records: the reference's whole and Seal. Conditions: none. -/
import Derived.Test.YtjhannlioddkkaaDoorRsw
import Derived.Test.YtjhannlioddkkaaDoorSig2
import Derived.Test.YtjhannlioddkkaaDoorRecE
import Derived.Deep.RegionHeld3
import Derived.Deep.Cut
namespace Go.Proofs.YtjhannlioddkkaaDoor
open Go.RowKit
set_option linter.unusedVariables false

set_option maxRecDepth 100000 in
set_option maxHeartbeats 4000000 in
theorem rwhole_any (size : Int) (sv : Value) (idx : Int) (parts path : List (List Int)) (w : World) (hg : SigV w sv idx parts path) :
    Calls Tryd.prog 61 #[.int .i64 size, sv] w fun e w' => e = .returned (.bool (decide (wholeI size idx parts path))) ∧ Below w.heap.size w w' := by
  obtain ⟨pa, pc, qa, qc, rfl⟩ := hg.val
  obtain ⟨g1, g2⟩ := hg.parts
  have hb1 : Below w.heap.size w (w.alloc (.cells #[.int .i64 idx, .slice pa parts.length pc, .slice qa path.length qc] 24)) := (Below.refl _ _).alloc (Nat.le_refl _) _
  have kS := Blk.new w 24 #[.int .i64 idx, .slice pa parts.length pc, .slice qa path.length qc]
  obtain ⟨c0, c1, c2⟩ := rec3 kS
  have HG1 := Lib.hid (fun w' (h : Below w.heap.size w w') => g1.below h (Nat.le_refl _))
  have HG2 := Lib.hid (fun w' (h : Below w.heap.size w w') => g2.below h (Nat.le_refl _))
  have HW : Hid (wholeI size idx parts path ↔ ((0 ≤ idx ∧ idx ≤ 255) ∧ (parts.length : Int) = wrap64 (wrap64 (4 * size) + 5) ∧ path.length ≤ 8 ∧ (∀ p ∈ parts, (p.length : Int) = size) ∧ ∀ p ∈ path, (p.length : Int) = size)) := ⟨fun h => h, fun h => h⟩
  have HB1 := Lib.hid hb1
  clear hg g1 g2 kS hb1
  go_enter Tryd.func61, Tryd.ntmps61
  go_upto_region 1 with (fail)
  generalize (w.alloc (.cells #[.int .i64 idx, .slice pa parts.length pc, .slice qa path.length qc] 24)) = w1 at *
  by_cases h0 : idx < 0
  · have HD := Lib.hid (show decide (wholeI size idx parts path) = false by
      simp only [decide_eq_false_iff_not]; intro hq; have := (HW.out.1 hq).1; omega)
    go_wp2
    go_ret
    exact ⟨ret_bool HD.out.symm, HB1.out⟩
  by_cases h1 : 255 < idx
  · have HD := Lib.hid (show decide (wholeI size idx parts path) = false by
      simp only [decide_eq_false_iff_not]; intro hq; have := (HW.out.1 hq).1; omega)
    go_wp2
    go_ret
    exact ⟨ret_bool HD.out.symm, HB1.out⟩
  by_cases h2 : (parts.length : Int) = wrap64 (wrap64 (4 * size) + 5)
  rotate_left
  · have u1 : ((parts.length : Int) != wrap64 (wrap64 (4 * size) + 5)) = true := by simp [h2]
    have HD := Lib.hid (show decide (wholeI size idx parts path) = false by
      simp only [decide_eq_false_iff_not]; intro hq; exact h2 (HW.out.1 hq).2.1)
    clear h2
    go_wp2
    go_ret
    exact ⟨ret_bool HD.out.symm, HB1.out⟩
  have u1 : ((parts.length : Int) != wrap64 (wrap64 (4 * size) + 5)) = false := by simp [h2]
  by_cases h3 : path.length ≤ 8
  rotate_left
  · have u2 : (8 : Int) < (path.length : Int) := by omega
    have HD := Lib.hid (show decide (wholeI size idx parts path) = false by
      simp only [decide_eq_false_iff_not]; intro hq; exact h3 (HW.out.1 hq).2.2.1)
    clear h2 h3
    go_wp2
    go_ret
    exact ⟨ret_bool HD.out.symm, HB1.out⟩
  have u2 : ¬ (8 : Int) < (path.length : Int) := by omega
  have HW : Hid (wholeI size idx parts path ↔ ((∀ p ∈ parts, (p.length : Int) = size) ∧ ∀ p ∈ path, (p.length : Int) = size)) := ⟨fun h => (HW.out.1 h).2.2.2, fun h => HW.out.2 ⟨⟨by omega, by omega⟩, h2, h3, h⟩⟩
  clear h2 h3
  have hbL : Below w1.heap.size w1 (w1.alloc (.cells #[.slice pa parts.length pc, .slice qa path.length qc] 22)) := (Below.refl _ _).alloc (Nat.le_refl _) _
  have kL := Blk.new w1 22 #[.slice pa parts.length pc, .slice qa path.length qc]
  have hbr := below_trans2 HB1.out hbL
  have HST := Lib.hid (And.intro hbr kL)
  clear hbL kL hbr
  go_wp2
  go_loopw [38] (fun i wr => ∃ k : Nat, k ≤ 2 ∧ i = .int .i64 k ∧ Hid ((1 ≤ k → ∀ p ∈ parts, (p.length : Int) = size) ∧ (2 ≤ k → ∀ p ∈ path, (p.length : Int) = size)) ∧ Below w.heap.size w wr ∧ Blk wr w1.heap.size 22 #[.slice pa parts.length pc, .slice qa path.length qc]) (fun i _ => 2 - (intOf i).toNat)
  case atStart => exact ⟨0, by omega, rfl, ⟨fun h => absurd h (by omega), fun h => absurd h (by omega)⟩, HST.out.1, HST.out.2⟩
  case round =>
    clear c0 c1 c2
    obtain ⟨k, hk, rfl, hall, hbr, kL⟩ := hrel
    obtain rfl | rfl | rfl : k = 0 ∨ k = 1 ∨ k = 2 := by omega
    all_goals clear hk
    · rw [show ((0 : Nat) : Int) = 0 from rfl]
      have HSL := Lib.hid (HG1.out wr hbr)
      have HAL := Lib.hid hall
      have HBR := Lib.hid hbr
      have HLL := Lib.hid (show parts.length ≤ 9223372036854775807 by obtain ⟨_, _, _, h3, h4⟩ := HSL.out.shape; exact Nat.le_trans h3 h4)
      have q0 : wr.cell? ⟨w1.heap.size, 0, none⟩ = some (.slice pa parts.length pc) := kL.cell 0
      have HKL := Lib.hid kL
      generalize wr = w3 at *
      clear hall hbr kL
      go_wp2
      go_loopw [44] (fun i wr => ∃ k : Nat, k ≤ parts.length ∧ i = .int .i64 k ∧ Hid (∀ j, j < k → ((parts.getD j []).length : Int) = size) ∧ w3 = wr) (fun i _ => parts.length - (intOf i).toNat)
      case atStart => exact ⟨0, by omega, rfl, fun j hj => absurd hj (by omega), rfl⟩
      case round =>
        obtain ⟨k, hk, rfl, hall, rfl⟩ := hrel
        by_cases hlt : k < parts.length
        · obtain ⟨b, off, rfl, hb, u, hu, hs⟩ := HSL.out.at hlt
          have hkI2 : (k : Int) < (parts.length : Int) := by omega
          have hmem : parts.getD k [] ∈ parts := by rw [List.getD_eq_getElem?_getD, List.getElem?_eq_getElem hlt]; exact List.getElem_mem hlt
          have HKW := Lib.hid (show wrap64 ((k : Int) + 1) = ((k + 1 : Nat) : Int) by have := HLL.out; unfold wrap64; omega)
          generalize hP : parts.getD k [] = P at *
          have HP := Lib.hid hP
          clear hP
          obtain ⟨ua, uc, rfl, _, _⟩ := hs.shape
          simp only [List.length_map] at *
          by_cases hx : (P.length : Int) = size
          · have HX := Lib.hid hx
            have hx' : ((P.length : Int) != size) = false := by simpa using hx
            clear hs hx
            go_wp2
            go_roundw
            case rel =>
              refine ⟨k + 1, by omega, by first | rw [HKW.out] | go_num, fun j hj => ?_, by first | rfl | trivial⟩
              rcases Nat.lt_or_ge j k with h | h
              · exact hall.out j h
              · obtain rfl : j = k := by omega
                rw [HP.out]; exact HX.out
            case measure => first | (rw [HKW.out]; simp [intOf]; omega) | (simp [intOf]; omega)
          · have hx' : ((P.length : Int) != size) = true := by simpa using hx
            have HD := Lib.hid (show decide (wholeI size idx parts path) = false by
              simp only [decide_eq_false_iff_not]
              intro hq
              exact hx ((HW.out.1 hq).1 _ hmem))
            clear hs hx
            go_wp2
            go_ret
            exact ⟨ret_bool HD.out.symm, HBR.out⟩
        · have hkI2 : ¬ (k : Int) < (parts.length : Int) := by omega
          have HN := Lib.hid (show ∀ p ∈ parts, (p.length : Int) = size from fun p hp => by
            obtain ⟨j, hj, rfl⟩ := List.mem_iff_getElem.1 hp
            have := hall.out j (by omega)
            rwa [List.getD_eq_getElem?_getD, List.getElem?_eq_getElem hj] at this)
          clear hall
          go_wp2
          exact ⟨⟨1, by omega, by go_num, ⟨fun _ => HN.out, fun h => absurd h (by omega)⟩, HBR.out, HKL.out⟩, by simp [intOf]⟩
    · rw [show ((1 : Nat) : Int) = 1 from rfl]
      have HSL := Lib.hid (HG2.out wr hbr)
      have HAL := Lib.hid hall
      have HBR := Lib.hid hbr
      have HLL := Lib.hid (show path.length ≤ 9223372036854775807 by obtain ⟨_, _, _, h3, h4⟩ := HSL.out.shape; exact Nat.le_trans h3 h4)
      have q0 : wr.cell? ⟨w1.heap.size, 1, none⟩ = some (.slice qa path.length qc) := kL.cell 1
      have HKL := Lib.hid kL
      generalize wr = w3 at *
      clear hall hbr kL
      go_wp2
      go_loopw [44] (fun i wr => ∃ k : Nat, k ≤ path.length ∧ i = .int .i64 k ∧ Hid (∀ j, j < k → ((path.getD j []).length : Int) = size) ∧ w3 = wr) (fun i _ => path.length - (intOf i).toNat)
      case atStart => exact ⟨0, by omega, rfl, fun j hj => absurd hj (by omega), rfl⟩
      case round =>
        obtain ⟨k, hk, rfl, hall, rfl⟩ := hrel
        by_cases hlt : k < path.length
        · obtain ⟨b, off, rfl, hb, u, hu, hs⟩ := HSL.out.at hlt
          have hkI2 : (k : Int) < (path.length : Int) := by omega
          have hmem : path.getD k [] ∈ path := by rw [List.getD_eq_getElem?_getD, List.getElem?_eq_getElem hlt]; exact List.getElem_mem hlt
          have HKW := Lib.hid (show wrap64 ((k : Int) + 1) = ((k + 1 : Nat) : Int) by have := HLL.out; unfold wrap64; omega)
          generalize hP : path.getD k [] = P at *
          have HP := Lib.hid hP
          clear hP
          obtain ⟨ua, uc, rfl, _, _⟩ := hs.shape
          simp only [List.length_map] at *
          by_cases hx : (P.length : Int) = size
          · have HX := Lib.hid hx
            have hx' : ((P.length : Int) != size) = false := by simpa using hx
            clear hs hx
            go_wp2
            go_roundw
            case rel =>
              refine ⟨k + 1, by omega, by first | rw [HKW.out] | go_num, fun j hj => ?_, by first | rfl | trivial⟩
              rcases Nat.lt_or_ge j k with h | h
              · exact hall.out j h
              · obtain rfl : j = k := by omega
                rw [HP.out]; exact HX.out
            case measure => first | (rw [HKW.out]; simp [intOf]; omega) | (simp [intOf]; omega)
          · have hx' : ((P.length : Int) != size) = true := by simpa using hx
            have HD := Lib.hid (show decide (wholeI size idx parts path) = false by
              simp only [decide_eq_false_iff_not]
              intro hq
              exact hx ((HW.out.1 hq).2 _ hmem))
            clear hs hx
            go_wp2
            go_ret
            exact ⟨ret_bool HD.out.symm, HBR.out⟩
        · have hkI2 : ¬ (k : Int) < (path.length : Int) := by omega
          have HN := Lib.hid (show ∀ p ∈ path, (p.length : Int) = size from fun p hp => by
            obtain ⟨j, hj, rfl⟩ := List.mem_iff_getElem.1 hp
            have := hall.out j (by omega)
            rwa [List.getD_eq_getElem?_getD, List.getElem?_eq_getElem hj] at this)
          clear hall
          go_wp2
          exact ⟨⟨2, by omega, by go_num, ⟨fun _ => HAL.out.1 (by omega), fun _ => HN.out⟩, HBR.out, HKL.out⟩, by simp [intOf]⟩
    · have HD := Lib.hid (show decide (wholeI size idx parts path) = true by
        simp only [decide_eq_true_eq]
        exact HW.out.2 ⟨hall.out.1 (by omega), hall.out.2 (by omega)⟩)
      clear hall
      go_wp2
      go_ret
      exact ⟨ret_bool HD.out.symm, hbr⟩

theorem rbytes_e0 (u : Value) (xs : List Int) (w : World) (hn : xs.length ≤ 100000000000000) (hu : Sl w u (xs.map (Value.int .u8))) :
    Calls Tryd.prog 62 #[.slice none 0 0, u] w fun e w' => ∃ v', e = .returned v' ∧ Sl w' v' ((bytesI xs).map (Value.int .u8)) ∧ Below w.heap.size w w' :=
  (rbytes_any (.slice none 0 0) [] u xs w (by simpa using hn) (Sl.nil _) hu).mono fun e w' ⟨v', he, ho, hb⟩ => ⟨v', he, by simpa using Sl.of_owns ho, hb⟩

set_option maxRecDepth 100000 in
set_option maxHeartbeats 4000000 in
theorem rseal_any (size ep ti : Int) (tr : List Int) (co : Int) (li : List Int) (ln : List (List Int)) (idx : Int) (parts path : List (List Int)) (v : Value) (w : World) (hz0 : -9223372036854775808 ≤ size) (hz1 : size ≤ 9223372036854775807) (hg : SgnV w v ep ti tr co li ln idx parts path) :
    Calls Tryd.prog 18 #[.int .i64 size, v] w fun e w' => ∃ x, e = .returned (.tuple #[x, .int .i64 (codeS size ep ti tr co li ln idx parts path)]) ∧ Sl w' x ((contS size ep ti tr co li ln idx parts path).map (Value.int .u8)) ∧ Below w.heap.size w w' := by
  obtain ⟨vt, vl, vk, vp, vq, rfl, hr, hgs⟩ := hg
  obtain ⟨ta, tn, tc, la, lc, lcc, ka, kc, he⟩ := hr.val
  cases he
  obtain ⟨pa, pc, qa, qc, he⟩ := hgs.val
  cases he
  have hb1 : Below w.heap.size w (w.alloc (.cells #[.int .i64 ep, .int .i64 ti, .slice ta tn tc, .int .i64 co, .slice la lc lcc, .slice ka ln.length kc, .int .i64 idx, .slice pa parts.length pc, .slice qa path.length qc] 37)) := (Below.refl _ _).alloc (Nat.le_refl _) _
  have kR := Blk.new w 37 #[.int .i64 ep, .int .i64 ti, .slice ta tn tc, .int .i64 co, .slice la lc lcc, .slice ka ln.length kc, .int .i64 idx, .slice pa parts.length pc, .slice qa path.length qc]
  have HE := Lib.hid (renc_any size ep ti tr co li ln _ (w.alloc (.cells #[.int .i64 ep, .int .i64 ti, .slice ta tn tc, .int .i64 co, .slice la lc lcc, .slice ka ln.length kc, .int .i64 idx, .slice pa parts.length pc, .slice qa path.length qc] 37)) hz0 hz1 (hr.below hb1 (Nat.le_refl _)))
  have HGS := Lib.hid (fun w' (h : Below w.heap.size w w') => hgs.below h (Nat.le_refl _))
  have HWA := Lib.hid (fun w' (h : Below w.heap.size w w') => rwhole_any size _ idx parts path w' (HGS.out w' h))
  have HDS := Lib.hid (show codeS size ep ti tr co li ln idx parts path = (if sealOk size ep ti tr co li ln idx parts path then 0 else 1) ∧ contS size ep ti tr co li ln idx parts path = (if sealOk size ep ti tr co li ln idx parts path then sealI ep ti tr co li ln idx parts path else []) from ⟨rfl, rfl⟩)
  generalize codeS size ep ti tr co li ln idx parts path = CC at *
  generalize contS size ep ti tr co li ln idx parts path = CB at *
  clear hr hgs
  have HSC : Hid (sealOk size ep ti tr co li ln idx parts path ↔ (canI size ep ti tr co li ln ∧ wholeI size idx parts path)) := ⟨fun h => h, fun h => h⟩
  obtain ⟨-, d6, d7, d8⟩ := rec9 kR
  have HKR := Lib.hid kR
  obtain ⟨⟨d0, d1, d2, d3, d4, d5⟩, -⟩ := rec9 kR
  have HB1 := Lib.hid hb1
  clear kR
  by_cases hC : canI size ep ti tr co li ln
  rotate_left
  · rw [show codeE size ep ti tr co li ln = 1 from by unfold codeE; rw [if_neg hC], show contE size ep ti tr co li ln = [] from by unfold contE; rw [if_neg hC]] at HE
    have HNO := Lib.hid (show ¬ sealOk size ep ti tr co li ln idx parts path from fun h => hC h.1)
    clear hC hb1
    go_enter Tryd.func18, Tryd.ntmps18
    go_wp2_with fail
    refine HE.out.mono ?_
    rintro e w2 ⟨x2, rfl, hx2, hb2⟩
    have hbr := below_trans2 HB1.out hb2
    go_wp2
    go_ret2
    rw [HDS.out.1, HDS.out.2, if_neg HNO.out, if_neg HNO.out]
    exact ⟨_, rfl, Sl.nil _, hbr⟩
  rw [show codeE size ep ti tr co li ln = 0 from by unfold codeE; rw [if_pos hC], show contE size ep ti tr co li ln = encI ep ti tr co li ln from by unfold contE; rw [if_pos hC]] at HE
  have HCC := Lib.hid hC
  clear hC hb1
  go_enter Tryd.func18, Tryd.ntmps18
  go_wp2_with fail
  generalize (w.alloc (.cells #[.int .i64 ep, .int .i64 ti, .slice ta tn tc, .int .i64 co, .slice la lc lcc, .slice ka ln.length kc, .int .i64 idx, .slice pa parts.length pc, .slice qa path.length qc] 37)) = w1 at *
  refine HE.out.mono ?_
  rintro e w2 ⟨x2, rfl, hx2, hb2⟩
  have hbr := below_trans2 HB1.out hb2
  have kR2 := HKR.out.belowS hb2
  obtain ⟨-, d6, d7, d8⟩ := rec9 kR2
  have HKR := Lib.hid kR2
  clear kR2 hb2 HE
  by_cases hW : wholeI size idx parts path
  rotate_left
  · have HWN := Lib.hid (HWA.out w2 hbr)
    rw [decide_eq_false hW] at HWN
    have HNO := Lib.hid (show ¬ sealOk size ep ti tr co li ln idx parts path from fun h => hW h.2)
    clear hW
    go_wp2_with fail
    refine HWN.out.mono ?_
    rintro e w3 ⟨rfl, hb3⟩
    have hbz := below_trans2 hbr hb3
    go_wp2
    go_ret2
    rw [HDS.out.1, HDS.out.2, if_neg HNO.out, if_neg HNO.out]
    exact ⟨_, rfl, Sl.nil _, hbz⟩
  have HWN := Lib.hid (HWA.out w2 hbr)
  rw [decide_eq_true hW] at HWN
  have HOK := Lib.hid (show sealOk size ep ti tr co li ln idx parts path from ⟨HCC.out, hW⟩)
  have hi0 := hW.1
  clear hW
  go_wp2_with fail
  refine HWN.out.mono ?_
  rintro e w3 ⟨rfl, hb3⟩
  have hbz := below_trans2 hbr hb3
  have HSG := Lib.hid (HGS.out w3 hbz)
  have hx3 := hx2.below hb3 (Nat.le_refl _)
  have kR3 := HKR.out.belowS hb3
  have HK := Lib.hid (fun w' (h : Below w3.heap.size w3 w') => (rec9 (kR3.belowS h)).2)
  have hG := Lib.hid (HK.out _ (Below.refl _ _))
  have HSL := Lib.hid (seal_len HOK.out)
  have HEL := Lib.hid (enc_short HOK.out.1)
  have HSI := Lib.hid (show sealI ep ti tr co li ln idx parts path = sigTo (bytesI (encI ep ti tr co li ln)) idx parts path 2 from rfl)
  generalize encI ep ti tr co li ln = en at *
  have HC1 := Lib.hid (fun w' (h : Below w3.heap.size w3 w') => rbytes_e0 x2 en w' (by have := HEL.out; omega) (hx3.below h (Nat.le_refl _)))
  have HC2 := Lib.hid (fun v w' (h : Below w3.heap.size w3 w') (hv : Sl w' v ((bytesI en).map (Value.int .u8))) => rswrite_any v (bytesI en) _ idx parts path w' hi0.1 (by have := hi0.2; omega) (by have h := HSL.out; rw [HSI.out] at h; omega) hv (HSG.out.below h (Nat.le_refl _)))
  have HBZ := Lib.hid hbz
  clear hx2 hx3 hi0 d0 d1 d2 d3 d4 d5 d6 d7 d8 kR3 hb3 hbz
  go_wp2
  go_region_held3 (fun w' => w'.cell? ⟨w.heap.size, 6, none⟩ = some (.int .i64 idx) ∧ w'.cell? ⟨w.heap.size, 7, none⟩ = some (.slice pa parts.length pc) ∧ w'.cell? ⟨w.heap.size, 8, none⟩ = some (.slice qa path.length qc)) (exact hG.out) (first | (go_at_call 15; refine (HC2.out v5 _ hb5 hs5).mono ?_; rintro e w6 ⟨v6, rfl, ho6, hb6⟩; have hs6 := Sl.of_owns ho6; have hb6 := below_trans2 hb5 hb6; have hG := Lib.hid (HK.out _ hb6)) | (go_at_call 62; refine (HC1.out _ (by first | exact Below.refl _ _ | exact (Below.refl _ _).drew)).mono ?_; rintro e w5 ⟨v5, rfl, hs5, hb5⟩; have hb5 : Below w3.heap.size w3 w5 := ⟨hb5.os, hb5.tape, hb5.output, hb5.size, hb5.block⟩; have hG := Lib.hid (HK.out _ hb5)))
  all_goals
    have hbz := below_trans2 HBZ.out hb6
    go_wp2
    go_ret2
    rw [HDS.out.1, HDS.out.2, if_pos HOK.out, if_pos HOK.out, HSI.out]
    exact ⟨_, rfl, hs6, hbz⟩

end Go.Proofs.YtjhannlioddkkaaDoor
