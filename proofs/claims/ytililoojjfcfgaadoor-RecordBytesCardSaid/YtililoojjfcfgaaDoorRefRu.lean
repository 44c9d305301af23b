/- The reference's reader: Uint. -/
import Derived.Test.YtililoojjfcfgaaDoorRefRd
namespace Go.Proofs.YtililoojjfcfgaaDoor
open Go.RowKit
set_option linter.unusedVariables false

set_option maxHeartbeats 1000000 in
theorem refUint_err (g : Nat) (bs : List Int) (er most : Int) (w : World) (he : ¬ er = 0) (h : RRd w g bs er) :
    Calls Tryd.prog 85 #[.pointer (some ⟨g, 0, none⟩), .int .i64 most] w fun e w' => e = .returned (.int .i64 0) ∧ w = w' := by
  have HT := Lib.hid (refTake_err g bs er 1 w he h)
  clear he h
  go_enter Tryd.func85, Tryd.ntmps85
  go_wp2_with fail
  refine HT.out.mono ?_
  rintro e w1 ⟨rfl, rfl⟩
  go_wp2
  go_ret
  exact ⟨rfl, rfl⟩

set_option maxHeartbeats 1000000 in
theorem refUint_nil (g : Nat) (most : Int) (w : World) (h : RRd w g [] 0) :
    Calls Tryd.prog 85 #[.pointer (some ⟨g, 0, none⟩), .int .i64 most] w fun e w' => e = .returned (.int .i64 0) ∧ RRdAt w w' g [] 3 := by
  have HT := Lib.hid (refTake_short g [] 1 w (by decide) h)
  clear h
  go_enter Tryd.func85, Tryd.ntmps85
  go_wp2_with fail
  refine HT.out.mono ?_
  rintro e w1 ⟨rfl, hr⟩
  go_wp2
  go_ret
  exact ⟨rfl, hr⟩

set_option maxHeartbeats 2000000 in
theorem refUint_wide (g : Nat) (hd : Int) (r : List Int) (most : Int) (w : World) (h8 : 8 < hd) (hd2 : hd ≤ 255) (hl : r.length ≤ 140737488351232) (h : RRd w g (hd :: r) 0) :
    Calls Tryd.prog 85 #[.pointer (some ⟨g, 0, none⟩), .int .i64 most] w fun e w' => e = .returned (.int .i64 0) ∧ RRdAt w w' g [] 5 := by
  have HT := Lib.hid (refTake_ok g (hd :: r) 1 w (by simp) (by decide) h)
  have hH : 0 ≤ hd ∧ hd ≤ 255 := by omega
  clear h hl hd2
  go_enter Tryd.func85, Tryd.ntmps85
  go_wp2_with fail
  refine HT.out.mono ?_
  rintro e w1 ⟨x, rfl, hx, ⟨v, hk, hsv⟩, hg⟩
  simp only [List.take_succ_cons, List.take_zero] at hx
  obtain ⟨a, c, rfl, hc, hm⟩ := hx.shape
  obtain ⟨b, off, rfl, hlt, hcell⟩ := hx.addr (by simp)
  have q0 : w1.cell? ⟨b, off, none⟩ = some (.int .u8 hd) := by have := hcell 0 (.int .u8 hd) (by simp); simpa using this
  have HF := Lib.hid (rfail_set g _ 5 w1 hk)
  have HG := Lib.hid hg
  have HX := Lib.hid (fun w2 (hg2 : w1.grownBy w2 (some g)) => hx.keepG hk (rrd_noB v hsv.val 0) hg2)
  simp only [List.map_cons, List.map_nil, List.length_cons, List.length_nil, Nat.zero_add] at *
  clear hcell hx hk hg hsv
  go_wp2_with fail
  refine HF.out.mono ?_
  rintro e w2 ⟨rfl, hr2, hg2⟩
  have hx2 := HX.out w2 hg2
  obtain ⟨b', off', heq, _, hcell⟩ := hx2.addr (by simp)
  cases heq
  have q0 : w2.cell? ⟨b, off, none⟩ = some (.int .u8 hd) := by have := hcell 0 (.int .u8 hd) (by simp); simpa using this
  have HT2 := Lib.hid (fun n => refTake_err g [] 5 n w2 (by decide) hr2)
  have HR := Lib.hid (show RRdAt w w2 g [] 5 from ⟨hr2, HG.out.trans hg2⟩)
  obtain ⟨v2, hk2, _⟩ := hr2
  have HS5 := Lib.hid (rfail_skip g _ 5 5 w2 (by decide) hk2)
  have HS4 := Lib.hid (rfail_skip g _ 5 4 w2 (by decide) hk2)
  have e1 : w2.cell? ⟨g, 1, none⟩ = some (.int .i64 5) := hk2.cell 1
  clear hx2 hcell hg2 hk2 HX HF
  go_wp2_with fail
  refine (HT2.out _).mono ?_
  rintro e w3 ⟨rfl, rfl⟩
  go_wp2
  go_loopw [7, 30] (fun n i wr => n = .int .u64 0 ∧ i = .int .i64 0 ∧ w2 = wr) (fun _ _ _ => 0)
  case atStart => exact ⟨rfl, rfl, rfl⟩
  case round =>
    obtain ⟨rfl, rfl, rfl⟩ := hrel
    by_cases hmo : most < 0
    · go_wp2_with fail
      refine HS4.out.mono ?_
      rintro e w4 ⟨rfl, rfl⟩
      go_wp2
      go_ret
      exact ⟨rfl, HR.out⟩
    · have hmo : ¬ 0 > most := by omega
      go_wp2
      go_ret
      exact ⟨rfl, HR.out⟩

set_option maxHeartbeats 2000000 in
theorem refUint_cut (g : Nat) (hd : Int) (r : List Int) (most : Int) (w : World) (h0 : 0 ≤ hd) (h8 : ¬ 8 < hd) (hs : r.length < hd.toNat) (h : RRd w g (hd :: r) 0) :
    Calls Tryd.prog 85 #[.pointer (some ⟨g, 0, none⟩), .int .i64 most] w fun e w' => e = .returned (.int .i64 0) ∧ RRdAt w w' g [] 3 := by
  have HT := Lib.hid (refTake_ok g (hd :: r) 1 w (by simp) (by decide) h)
  obtain ⟨N, rfl⟩ : ∃ N : Nat, hd = N := ⟨hd.toNat, by omega⟩
  have hsN : r.length < N := by omega
  have hN8 : (N : Int) % 9 = N := by omega
  have hN9 : Int.tmod (N : Int) 9 = N := by rw [Int.tmod_eq_emod_of_nonneg (by omega)]; omega
  clear h h0 hs
  go_enter Tryd.func85, Tryd.ntmps85
  go_wp2_with fail
  refine HT.out.mono ?_
  rintro e w1 ⟨x, rfl, hx, hr1, hg⟩
  simp only [List.take_succ_cons, List.take_zero, List.drop_succ_cons, List.drop_zero] at hx hr1
  obtain ⟨a, c, rfl, hc, hm⟩ := hx.shape
  obtain ⟨b, off, rfl, hlt, hcell⟩ := hx.addr (by simp)
  have q0 : w1.cell? ⟨b, off, none⟩ = some (.int .u8 N) := by have := hcell 0 (.int .u8 N) (by simp); simpa using this
  have HS := Lib.hid (refTake_short g r N w1 hsN hr1)
  have HG := Lib.hid hg
  simp only [List.map_cons, List.map_nil, List.length_cons, List.length_nil, Nat.zero_add] at *
  clear hcell hx hg hr1 hsN
  go_wp2_with fail
  refine HS.out.mono ?_
  rintro e w2 ⟨rfl, hr2, hg2⟩
  have HR := Lib.hid (show RRdAt w w2 g [] 3 from ⟨hr2, HG.out.trans hg2⟩)
  obtain ⟨v2, hk2, _⟩ := hr2
  have HS4 := Lib.hid (rfail_skip g _ 3 4 w2 (by decide) hk2)
  have e1 : w2.cell? ⟨g, 1, none⟩ = some (.int .i64 3) := hk2.cell 1
  clear hk2 hg2 q0
  go_wp2
  go_loopw [7, 30] (fun n i wr => n = .int .u64 0 ∧ i = .int .i64 0 ∧ w2 = wr) (fun _ _ _ => 0)
  case atStart => exact ⟨rfl, rfl, rfl⟩
  case round =>
    obtain ⟨rfl, rfl, rfl⟩ := hrel
    by_cases hmo : most < 0
    · go_wp2_with fail
      refine HS4.out.mono ?_
      rintro e w4 ⟨rfl, rfl⟩
      go_wp2
      go_ret
      exact ⟨rfl, HR.out⟩
    · have hmo : ¬ 0 > most := by omega
      go_wp2
      go_ret
      exact ⟨rfl, HR.out⟩

set_option maxHeartbeats 4000000 in
theorem refUint_read (g : Nat) (hd : Int) (r : List Int) (most : Int) (w : World) (h0 : 0 ≤ hd) (h8 : ¬ 8 < hd) (hs : ¬ r.length < hd.toNat) (hl : r.length ≤ 140737488351232) (hB : IsB r) (h : RRd w g (hd :: r) 0) :
    Calls Tryd.prog 85 #[.pointer (some ⟨g, 0, none⟩), .int .i64 most] w fun e w' => e = .returned (.int .i64 (uI most (hd :: r) 0).1) ∧ RRdAt w w' g (uI most (hd :: r) 0).2.1 (uI most (hd :: r) 0).2.2 := by
  have HT := Lib.hid (refTake_ok g (hd :: r) 1 w (by simp) (by decide) h)
  have HU1 := Lib.hid (uI_form most hd r h8 hs)
  have HU2 := Lib.hid (uI_full most hd r h8 hs)
  have HU3 := Lib.hid (uI_ok most hd r h8 hs)
  generalize uI most (hd :: r) 0 = U at *
  obtain ⟨N, rfl⟩ : ∃ N : Nat, hd = N := ⟨hd.toNat, by omega⟩
  have hsN : N ≤ r.length := by omega
  have hN8 : (N : Int) % 9 = N := by omega
  have hN9 : Int.tmod (N : Int) 9 = N := by rw [Int.tmod_eq_emod_of_nonneg (by omega)]; omega
  have hI : ¬ 8 < (N : Int) := by omega
  rw [show (N : Int).toNat = N by omega] at HU1 HU2 HU3
  have HL := Lib.hid (show (r.take N).length = N by rw [List.length_take]; omega)
  have HX := Lib.hid (show 0 < N → (r.take N).getD 0 0 = r.getD 0 0 from fun hp => by
    rw [List.getD_eq_getElem?_getD, List.getD_eq_getElem?_getD, List.getElem?_take, if_pos hp])
  have HBL := Lib.hid (show IsB (r.take N) from fun x hx => hB x (List.mem_of_mem_take hx))
  have HW := Lib.hid (show r.length ≤ 140737488351232 by omega)
  have HI8 := Lib.hid (show N ≤ 8 by omega)
  clear h h0 hs hB h8 hl
  go_enter Tryd.func85, Tryd.ntmps85
  go_wp2_with fail
  refine HT.out.mono ?_
  rintro e w1 ⟨x, rfl, hx, hr1, hg⟩
  simp only [List.take_succ_cons, List.take_zero, List.drop_succ_cons, List.drop_zero] at hx hr1
  obtain ⟨a, c, rfl, hc, hm⟩ := hx.shape
  obtain ⟨b, off, rfl, hlt, hcell⟩ := hx.addr (by simp)
  have q0 : w1.cell? ⟨b, off, none⟩ = some (.int .u8 N) := by have := hcell 0 (.int .u8 N) (by simp); simpa using this
  have HS := Lib.hid (refTake_ok g r N w1 hsN (Nat.le_trans HI8.out (by decide)) hr1)
  have HG := Lib.hid hg
  simp only [List.map_cons, List.map_nil, List.length_cons, List.length_nil, Nat.zero_add] at *
  clear hcell hx hg hr1 hsN
  go_wp2_with fail
  refine HS.out.mono ?_
  rintro e w2 ⟨lv, rfl, hlv, hr2, hg2⟩
  have HG := Lib.hid (HG.out.trans hg2)
  clear HS HT q0 hg2
  obtain ⟨v2, hk2, hv2⟩ := id hr2
  have HF5 := Lib.hid (rfail_set g v2 5 w2 hk2)
  have HF4 := Lib.hid (rfail_set g v2 4 w2 hk2)
  have HR2 := Lib.hid hr2
  have e1 : w2.cell? ⟨g, 1, none⟩ = some (.int .i64 0) := hk2.cell 1
  have HK := Lib.hid (fun w3 (hg3 : w2.grownBy w3 (some g)) (u : Value) (zs : List Int) (hu : Sl w2 u (zs.map (Value.int .u8))) => hu.keepG hk2 (rrd_noB v2 hv2.val 0) hg3)
  clear hk2 hv2 hr2
  generalize r.take N = L at *
  obtain ⟨la, lc, rfl, hlc, hlm⟩ := hlv.shape
  rw [List.length_map] at hlc hlv
  rw [List.length_map]
  rw [HL.out] at hlc hlv
  rw [HL.out]
  have step : ∀ k, k < N → Hid (beN (L.take (k + 1)) = beN (L.take k) * 256 + L.getD k 0 ∧ (0 ≤ L.getD k 0 ∧ L.getD k 0 ≤ 255) ∧ 0 ≤ beN (L.take k) ∧ beN (L.take k) < 72057594037927936) := fun k hlt => by
    have hyb := HBL.out (L.getD k 0) (by rw [List.getD_eq_getElem?_getD, List.getElem?_eq_getElem (by rw [HL.out]; exact hlt)]; exact List.getElem_mem _)
    have hbn := beN_pos (L.take k) (fun x hx => HBL.out x (List.mem_of_mem_take hx))
    refine ⟨beN_take L k (by rw [HL.out]; exact hlt), hyb, hbn.1, Int.lt_of_lt_of_le hbn.2 ?_⟩
    have h1 : (L.take k).length ≤ 7 := by rw [List.length_take, HL.out]; have := HI8.out; omega
    have h2 : (256 : Nat) ^ (L.take k).length ≤ 256 ^ 7 := Nat.pow_le_pow_right (by decide) h1
    have h3 : (256 : Int) ^ (L.take k).length = ((256 ^ (L.take k).length : Nat) : Int) := by simp
    rw [h3]; omega
  have STEP := Lib.hid step
  clear step
  have hbn := (beN_pos L HBL.out).1
  have hbm : beN L < 18446744073709551616 := by
    refine Int.lt_of_lt_of_le (beN_pos L HBL.out).2 ?_
    have h1 : L.length ≤ 8 := by rw [HL.out]; exact HI8.out
    have h2 : (256 : Nat) ^ L.length ≤ 256 ^ 8 := Nat.pow_le_pow_right (by decide) h1
    have h3 : (256 : Int) ^ L.length = ((256 ^ L.length : Nat) : Int) := by simp
    rw [h3]; omega
  have HLN := Lib.hid (show L.take N = L from List.take_of_length_le (by rw [HL.out]; exact Nat.le_refl _))
  have HWR : Hid (beN L ≤ 4611686018427387904 → IntKind.i64.wrap (beN L) = beN L) := fun h => by rw [IntKind.wrap_i64]; omega
  have HBB := Lib.hid (And.intro hbn hbm)
  clear hbn hbm
  by_cases hbad : 0 < N ∧ r.getD 0 0 = 0
  · have hL0 : L.getD 0 0 = 0 := by rw [HX.out hbad.1]; exact hbad.2
    have HL0 := Lib.hid hL0
    have hNp : 0 < N := hbad.1
    have HNP := Lib.hid hNp
    have HU := Lib.hid (HU1.out (.inl hbad))
    clear hL0 hbad HU1 HU2 HU3 hNp
    go_wp2
    go_loopw [7, 30] (fun n i wr => ∃ k : Nat, k ≤ N ∧ i = .int .i64 k ∧ n = .int .u64 (beN (L.take k)) ∧ ((k = 0 ∧ w2 = wr) ∨ (0 < k ∧ RRdAt w2 wr g [] 5))) (fun _ i _ => N - (intOf i).toNat)
    case atStart => exact ⟨0, by omega, rfl, rfl, .inl ⟨rfl, rfl⟩⟩
    case round =>
      obtain ⟨k, hk, rfl, rfl, hst⟩ := hrel
      by_cases hlt : k < N
      · have hkI : (k : Int) < (N : Int) := by omega
        have HSK := Lib.hid (STEP.out k hlt).out
        rcases hst with ⟨rfl, rfl⟩ | ⟨hkp, hrw⟩
        · obtain ⟨b3, o3, rfl, hb3, hc3⟩ := hlv.ints (k := 0) (by rw [HL.out]; exact hlt)
          have hc3 := hc3 0 (by rw [HL.out]; exact hlt)
          rw [Nat.add_zero, HL0.out] at hc3
          rw [HL0.out] at HSK
          have HQ : Hid (IntKind.u64.wrap (IntKind.u64.wrap (beN (L.take 0) * 256) + 0) = beN (L.take (0 + 1))) := by
            have := HSK.out
            rw [this.1]
            show _ = _
            rw [IntKind.wrap_u64, IntKind.wrap_u64]; omega
          generalize beN (L.take 0) = B at *
          go_wp2_with fail
          refine HF5.out.mono ?_
          rintro e w3 ⟨rfl, hr3⟩
          go_wp2
          exact ⟨⟨1, by omega, rfl, by rw [show beN (L.take 1) = _ from HQ.out.symm, Int.add_zero], .inr ⟨by omega, hr3⟩⟩, by simp [intOf]; omega⟩
        · obtain ⟨b3, o3, rfl, hb3, hc3⟩ := (HK.out wr hrw.2 _ L hlv).ints (k := k) (by rw [HL.out]; exact hlt)
          have hc3 := hc3 k (by rw [HL.out]; exact hlt)
          have HQ : Hid (IntKind.u64.wrap (IntKind.u64.wrap (beN (L.take k) * 256) + L.getD k 0) = beN (L.take (k + 1))) := by
            have := HSK.out
            rw [this.1]
            show _ = _
            rw [IntKind.wrap_u64, IntKind.wrap_u64]; omega
          have HY : Hid (IntKind.u64.wrap (L.getD k 0) = L.getD k 0) := by have := HSK.out; show _ = _; rw [IntKind.wrap_u64]; omega
          generalize beN (L.take k) = B at *
          generalize L.getD k 0 = y at *
          have hkz : ¬ (k : Int) = 0 := by omega
          clear hlv
          go_wp2
          exact ⟨⟨k + 1, by omega, by go_num, by rw [HY.out, HQ.out], .inr ⟨by omega, hrw⟩⟩, by simp [intOf]; omega⟩
      · obtain rfl : k = N := by omega
        have hkI : ¬ (k : Int) < (k : Int) := by omega
        rcases hst with ⟨rfl, _⟩ | ⟨hkp, hrw⟩
        · exact absurd HNP.out (by omega)
        · rw [HLN.out]
          have HR := Lib.hid (show RRdAt w wr g [] 5 from ⟨hrw.1, HG.out.trans hrw.2⟩)
          obtain ⟨⟨v3, hk3, _⟩, _⟩ := hrw
          have e1 : wr.cell? ⟨g, 1, none⟩ = some (.int .i64 5) := hk3.cell 1
          have HS5 := Lib.hid (rfail_skip g _ 5 5 wr (by decide) hk3)
          have HS4 := Lib.hid (rfail_skip g _ 5 4 wr (by decide) hk3)
          generalize beN L = B at *
          clear hk3 hlv HF5 HF4
          by_cases hbig : 4611686018427387904 < B
          · by_cases hmo : most < wrap64 B
            · go_wp2_with fail
              refine HS5.out.mono ?_
              rintro e w4 ⟨rfl, rfl⟩
              go_wp2_with fail
              refine HS4.out.mono ?_
              rintro e w4 ⟨rfl, rfl⟩
              go_wp2
              go_ret
              rw [HU.out]
              exact ⟨rfl, HR.out⟩
            · go_wp2_with fail
              refine HS5.out.mono ?_
              rintro e w4 ⟨rfl, rfl⟩
              go_wp2
              go_ret
              rw [HU.out]
              exact ⟨rfl, HR.out⟩
          · have hwr := HWR.out (by omega)
            have hbig : ¬ B > 4611686018427387904 := by omega
            by_cases hmo : most < B
            · go_wp2_with fail
              refine HS4.out.mono ?_
              rintro e w4 ⟨rfl, rfl⟩
              go_wp2
              go_ret
              rw [HU.out]
              exact ⟨rfl, HR.out⟩
            · go_wp2
              go_ret
              rw [HU.out]
              exact ⟨rfl, HR.out⟩
  · have HB0 := Lib.hid hbad
    clear hbad
    go_wp2
    go_loopw [7, 30] (fun n i wr => ∃ k : Nat, k ≤ N ∧ i = .int .i64 k ∧ n = .int .u64 (beN (L.take k)) ∧ w2 = wr) (fun _ i _ => N - (intOf i).toNat)
    case atStart => exact ⟨0, by omega, rfl, rfl, rfl⟩
    case round =>
      obtain ⟨k, hk, rfl, rfl, rfl⟩ := hrel
      by_cases hlt : k < N
      · have hkI : (k : Int) < (N : Int) := by omega
        have HSK := Lib.hid (STEP.out k hlt).out
        obtain ⟨b3, o3, rfl, hb3, hc3⟩ := hlv.ints (k := k) (by rw [HL.out]; exact hlt)
        have hc3 := hc3 k (by rw [HL.out]; exact hlt)
        have HQ : Hid (IntKind.u64.wrap (IntKind.u64.wrap (beN (L.take k) * 256) + L.getD k 0) = beN (L.take (k + 1))) := by
          have := HSK.out
          rw [this.1]
          show _ = _
          rw [IntKind.wrap_u64, IntKind.wrap_u64]; omega
        have HY : Hid (IntKind.u64.wrap (L.getD k 0) = L.getD k 0) := by have := HSK.out; show _ = _; rw [IntKind.wrap_u64]; omega
        by_cases hk0 : k = 0
        · subst hk0
          have hy0 : ¬ L.getD 0 0 = 0 := fun h => HB0.out ⟨hlt, by rw [← HX.out hlt]; exact h⟩
          rw [Nat.add_zero] at hc3
          generalize beN (L.take 0) = B at *
          generalize L.getD 0 0 = y at *
          go_wp2
          exact ⟨⟨1, by omega, rfl, by rw [HY.out, HQ.out], by first | rfl | trivial⟩, by simp [intOf]; omega⟩
        · generalize beN (L.take k) = B at *
          generalize L.getD k 0 = y at *
          have hkz : ¬ (k : Int) = 0 := by omega
          go_wp2
          exact ⟨⟨k + 1, by omega, by go_num, by rw [HY.out, HQ.out], by first | rfl | trivial⟩, by simp [intOf]; omega⟩
      · obtain rfl : k = N := by omega
        have hkI : ¬ (k : Int) < (k : Int) := by omega
        rw [HLN.out]
        have HN1 := Lib.hid (fun h => HU1.out (.inr h))
        have HN2 := Lib.hid (fun h1 => HU2.out (fun h => h.elim HB0.out h1))
        have HN3 := Lib.hid (fun h1 => HU3.out (fun h => h.elim HB0.out h1))
        generalize beN L = B at *
        clear hlv
        by_cases hbig : 4611686018427387904 < B
        · have HU := Lib.hid (HN1.out hbig)
          go_wp2_with fail
          refine HF5.out.mono ?_
          rintro e w3 ⟨rfl, hr3⟩
          have HR := Lib.hid (show RRdAt w w3 g [] 5 from ⟨hr3.1, HG.out.trans hr3.2⟩)
          obtain ⟨⟨v3, hk3, _⟩, _⟩ := hr3
          have e1 : w3.cell? ⟨g, 1, none⟩ = some (.int .i64 5) := hk3.cell 1
          have HS4 := Lib.hid (rfail_skip g _ 5 4 w3 (by decide) hk3)
          clear hk3 HF5 HF4
          by_cases hmo : most < wrap64 B
          · go_wp2_with fail
            refine HS4.out.mono ?_
            rintro e w4 ⟨rfl, rfl⟩
            go_wp2
            go_ret
            rw [HU.out]
            exact ⟨rfl, HR.out⟩
          · go_wp2
            go_ret
            rw [HU.out]
            exact ⟨rfl, HR.out⟩
        · have HU2 := Lib.hid (HN2.out hbig)
          have HU3 := Lib.hid (HN3.out hbig)
          have hbig : ¬ B > 4611686018427387904 := by omega
          have hB0 : 0 ≤ B := HBB.out.1
          by_cases hmo : most < B
          · have HU := Lib.hid (HU2.out hmo)
            go_wp2_with fail
            refine HF4.out.mono ?_
            rintro e w3 ⟨rfl, hr3⟩
            have HR := Lib.hid (show RRdAt w w3 g [] 4 from ⟨hr3.1, HG.out.trans hr3.2⟩)
            obtain ⟨⟨v3, hk3, _⟩, _⟩ := hr3
            have e1 : w3.cell? ⟨g, 1, none⟩ = some (.int .i64 4) := hk3.cell 1
            clear hk3 HF5 HF4
            go_wp2
            go_ret
            rw [HU.out]
            exact ⟨rfl, HR.out⟩
          · have HU := Lib.hid (HU3.out (by omega))
            go_wp2
            go_ret
            rw [HU.out]
            exact ⟨by first | rfl | simp, HR2.out, HG.out⟩

theorem RRdAt.same {w : World} {g : Nat} {bs : List Int} {e : Int} (h : RRd w g bs e) : RRdAt w w g bs e := ⟨h, World.grownBy.refl w (some g)⟩

theorem refRuint_any (g : Nat) (bs : List Int) (er most : Int) (w : World) (hB : IsB bs) (hl : bs.length ≤ 140737488351232) (h : RRd w g bs er) :
    Calls Tryd.prog 85 #[.pointer (some ⟨g, 0, none⟩), .int .i64 most] w fun e w' => e = .returned (.int .i64 (uI most bs er).1) ∧ RRdAt w w' g (uI most bs er).2.1 (uI most bs er).2.2 := by
  by_cases he : er = 0
  · subst he
    cases bs with
    | nil => rw [uI_nil]; exact refUint_nil g most w h
    | cons hd r =>
      have h0 := hB hd (by simp)
      have hl' : r.length ≤ 140737488351232 := by simp at hl; omega
      by_cases h8 : 8 < hd
      · rw [uI_wide most hd r h8]; exact refUint_wide g hd r most w h8 h0.2 hl' h
      · by_cases hs : r.length < hd.toNat
        · rw [uI_short most hd r h8 hs]; exact refUint_cut g hd r most w h0.1 h8 hs h
        · exact refUint_read g hd r most w h0.1 h8 hs hl' (fun x hx => hB x (by simp [hx])) h
  · rw [uI_err most bs er he]
    exact (refUint_err g bs er most w he h).mono fun e w' ⟨h1, h2⟩ => ⟨h1, by subst h2; exact RRdAt.same h⟩

set_option maxHeartbeats 1000000 in
theorem refRbytes_any (g : Nat) (bs : List Int) (er most : Int) (w : World) (hB : IsB bs) (hl : bs.length ≤ 140737488351232) (h : RRd w g bs er) :
    Calls Tryd.prog 86 #[.pointer (some ⟨g, 0, none⟩), .int .i64 most] w fun e w' => ∃ x, e = .returned x ∧ Sl w' x ((bI most bs er).1.map (Value.int .u8)) ∧ RRdAt w w' g (bI most bs er).2.1 (bI most bs er).2.2 := by
  have HU := Lib.hid (refRuint_any g bs er most w hB hl h)
  have HV := Lib.hid (uI_val most bs er hB)
  have HL := Lib.hid (suf_len (uI_left most bs er))
  have HE := Lib.hid (bI_err most bs er)
  have HS := Lib.hid (bI_short most bs er)
  have HO := Lib.hid (bI_ok most bs er)
  have HLL := Lib.hid hl
  generalize bI most bs er = R at *
  generalize uI most bs er = U at *
  obtain ⟨n, lf, e2⟩ := U
  obtain ⟨N, rfl⟩ : ∃ N : Nat, n = N := ⟨n.toNat, by have := HV.out.1; simp at this; omega⟩
  simp only [Int.toNat_natCast] at HE HS HO HU HL
  clear h hB hl HV
  go_enter Tryd.func86, Tryd.ntmps86
  go_wp2_with fail
  refine HU.out.mono ?_
  rintro e w1 ⟨rfl, hr, hg⟩
  have HG := Lib.hid hg
  clear hg
  by_cases h2 : e2 = 0
  · subst h2
    by_cases hs : lf.length < N
    · have HR := Lib.hid (HS.out rfl hs)
      have HT := Lib.hid (refTake_short g lf N w1 hs hr)
      clear hs hr HE HO HS HL
      go_wp2_with fail
      refine HT.out.mono ?_
      rintro e w2 ⟨rfl, hr2, hg2⟩
      go_wp2
      go_ret
      rw [HR.out]
      exact ⟨_, rfl, Sl.nil _, hr2, HG.out.trans hg2⟩
    · have HR := Lib.hid (HO.out rfl hs)
      have HT := Lib.hid (refTake_ok g lf N w1 (by omega) (by have h1 := HL.out; have h2 := HLL.out; omega) hr)
      clear hs hr HE HO HS HL
      go_wp2_with fail
      refine HT.out.mono ?_
      rintro e w2 ⟨x, rfl, hx, hr2, hg2⟩
      go_wp2
      go_ret
      rw [HR.out]
      exact ⟨_, rfl, hx, hr2, HG.out.trans hg2⟩
  · have HR := Lib.hid (HE.out h2)
    have HT := Lib.hid (refTake_err g lf e2 N w1 h2 hr)
    have HRD := Lib.hid hr
    clear h2 hr HE HO HS HL
    go_wp2_with fail
    refine HT.out.mono ?_
    rintro e w2 ⟨rfl, rfl⟩
    go_wp2
    go_ret
    rw [HR.out]
    exact ⟨_, rfl, Sl.nil _, HRD.out, HG.out⟩

end Go.Proofs.YtililoojjfcfgaaDoor
