/- A crash that keeps all changes nothing that is read: the walk of the law DeviceKeeps. -/
import Derived.Test.YteaimjfpmacgeaaDevs
import Derived.Test.YteaimjfpmacgeaaDvU
import Derived.Test.YteaimjfpmacgeaaDvW
import Derived.Test.YteaimjfpmacgeaaKeepP
import Derived.Test.YteaimjfpmacgeaaSame
import Derived.Deep.RegionHeld3
import Derived.Deep.QuietTactic
import Derived.Deep.Cut
namespace Go.Proofs.Yteaimjfpmacgeaa
open Go.RowKit
set_option linter.unusedVariables false

theorem OBs.dev {w w' : World} {base : Nat} {v : Value} {pss : List (List Int)} {g b : Nat} {d : DSt} (h : OBs w base v pss) (hd : Dev w g b d) (ho : Only [g, b] w w') : OBs w' base v pss := h.only ho fun k hk cur => hd.noB k hk cur

set_option maxRecDepth 100000 in
set_option maxHeartbeats 8000000 in
theorem deviceKeeps_walk (vl : Value) (l : List Stp) (vk : Value) (keep : List Int) (w : World) (hL : ∀ p ∈ l, StpB p) (hl : Stps w vl l) (hK : IsB keep) (hsk : Sl w vk (keep.map (Value.int .u8))) :
    Calls Try.prog 7 #[vl, vk] w fun e w' => e = .returned (.bool true) ∧ Below w.heap.size w w' := by
  have HDV := Lib.hid (devices_any 8 vl l w (by omega) (by omega) hL hl)
  have HSL := Lib.hid hl
  have HSK := Lib.hid hsk
  have HLB := Lib.hid hL
  obtain ⟨la, lc, rfl, hlc, hlm⟩ := hl.shape
  obtain ⟨ka, kn, kc, rfl⟩ := hsk.val
  clear hl hsk hL
  go_enter Try.func7, Try.ntmps7
  go_wp2_with fail
  refine HDV.out.mono ?_
  rintro e w1 ⟨g, b, y, gl, gk, gw, d0, rfl, hge, hP1, hdl, hb1⟩
  have HC1 := Lib.hid (dcrash_any w1 g b d0 (.slice none 0 0) [] hP1.dev (Sl.nil _) (fun o n c hn e => by injection e with e1 e2 e3; cases e1))
  have HGE := Lib.hid hge
  have HP1 := Lib.hid hP1
  have HB1 := Lib.hid hb1
  have HDL := Lib.hid hdl
  clear hge hP1 hdl hb1 HDV
  go_wp2_with fail
  refine HC1.out.mono ?_
  rintro e w2 ⟨rfl, hD2, hO2⟩
  have hR2 := HP1.out.ref.only hO2 HP1.out.dev.free
  have hb2 := Only.belowOf HB1.out hO2 HB1.out.size (fun k hk => HGE.out k (by simp at hk ⊢; omega))
  have HI := Lib.hid (KInv.init HDL.out hD2.ok)
  have HX2 := Lib.hid (hR2.apart hD2)
  have HC2 := Lib.hid (rcrash_any w2 y gl gk gw d0 (.slice none 0 0) [] hR2 (Sl.nil _) (fun b hb o n c hn e => by injection e with e1 e2 e3; cases e1))
  generalize d0.crash [] = d1 at *
  have HD2 := Lib.hid hD2
  have HB2 := Lib.hid hb2
  clear hD2 hO2 hR2 hb2 HC1 HP1 HB1
  go_wp2_with fail
  refine HC2.out.mono ?_
  rintro e w3 ⟨rfl, hR3, hO3⟩
  have hD3 := HD2.out.only hO3 HX2.out.1 HX2.out.2
  have hb3 := Only.belowOf HB2.out hO3 HB2.out.size (fun k hk => HGE.out k (by simp at hk ⊢; omega))
  have HIM := Lib.hid (dimage_any w3 g b d1 hD3)
  have HD3 := Lib.hid hD3
  have HB3 := Lib.hid hb3
  clear hR3 hO3 hD3 hb3 HC2 HD2 HB2
  go_wp2_with fail
  refine HIM.out.mono ?_
  rintro e w4 ⟨x1, rfl, hx1, hb4⟩
  obtain ⟨xa, xc, rfl⟩ : ∃ a c, x1 = Value.slice a 8 c := by
    obtain ⟨a, c, e⟩ := hx1.val
    rw [List.length_map, HI.out.len] at e
    exact ⟨a, c, e⟩
  generalize hS : d1.l.map Sec.now = S at *
  have HD4 := Lib.hid (HD3.out.below hb4)
  have HB4 := Lib.hid (below_trans2 HB3.out hb4)
  have HX4 := Lib.hid (hx1.base (Nat.zero_le _))
  have HSN := Lib.hid (show S.length = 8 from by rw [← hS, List.length_map]; exact HI.out.len)
  have HSB := Lib.hid (show ∀ p ∈ S, IsB p from fun p hp => by
    rw [← hS] at hp
    obtain ⟨s, hs, rfl⟩ := List.mem_map.1 hp
    exact (HD3.out.ok s hs).2.2.1)
  clear hx1 hb4 HIM HD3 HB3 hS HDL
  go_wp2
  go_loopw [34] (fun i wr => ∃ (k : Nat) (d : DSt), k ≤ l.length ∧ i = .int .i64 k ∧ KInv S d ∧ Dev wr g b d ∧ OBs wr 0 (.slice xa 8 xc) S ∧ Below w.heap.size w wr) (fun i _ => l.length - (intOf i).toNat)
  case atStart => exact ⟨0, d1, by omega, rfl, HI.out, HD4.out, HX4.out, HB4.out⟩
  case round =>
    clear HD4 HX4 HB4 HI
    obtain ⟨k, d, hk, rfl, hI, hD, hx, hbw⟩ := hrel
    by_cases hlt : k < l.length
    · have hkI : (k : Int) < (l.length : Int) := by omega
      obtain ⟨sb, so, rfl, hsb, u, c0, c1, c2, hsu⟩ := (HSL.out.below hbw (Nat.le_refl _)).at hlt
      have HPB := Lib.hid (HLB.out _ (List.getElem_mem hlt))
      generalize l[k] = p at *
      obtain ⟨op, si, sbs⟩ := p
      obtain ⟨ua, un, uc, rfl⟩ := hsu.val
      have hbA : Below wr.heap.size wr (wr.alloc (.cells #[.int .i64 op, .int .i64 si, .slice ua un uc] 36)) := (Below.refl _ _).alloc (Nat.le_refl _) _
      have kB := Blk.new wr 36 #[.int .i64 op, .int .i64 si, .slice ua un uc]
      have hDA := hD.below hbA
      have hxA := hx.below hbA
      have hbwA := hbw.trans (hbA.mono hbw.size)
      have hsuA := hsu.below hbA (Nat.le_refl _)
      have HI := Lib.hid hI
      clear hD hx hbw hsu hbA hI
      by_cases hk10 : k < 10
      · have hkI2 : (k : Int) < 10 := by omega
        have hPL := padTo_isB HPB.out.2.2 64
        have hnb : wr.heap.size ∉ [g, b] := by
          intro hm
          obtain ⟨cap, _, _, q1⟩ := hDA.blk
          obtain ⟨cur2, q2⟩ := hDA.row.typ
          rcases List.mem_cons.1 hm with e | e
          · exact Blk.ne_ kB q1 (by decide) e
          · exact Blk.ne_ kB q2 (by decide) (by simpa using e)
        go_upto_region 10 with (fail)
        generalize (wr.alloc (.cells #[.int .i64 op, .int .i64 si, .slice ua un uc] 36)) = w5 at *
        have HFU := Lib.hid (fun w' (q : Below w5.heap.size w5 w') => full_any op si (.slice ua un uc) sbs w' (hsuA.below q (Nat.le_refl _)))
        have HWR := Lib.hid (fun w' base x i (q1 : Dev w' g b d) (q2 : OB w' base x (padTo 64 sbs)) => dwrite_any w' g b d i x (padTo 64 sbs) q1 hPL q2.sl (q2.neB q1.row))
        have HD := Lib.hid hDA
        have HX := Lib.hid hxA
        have HB := Lib.hid hbwA
        have HKB := Lib.hid kB
        have HNB := Lib.hid hnb
        have hG := Lib.hid (cell3 kB)
        clear hsuA hDA hxA hbwA hPL kB hnb
        go_wp2
        go_region_held3 (fun w' => w'.cell? ⟨wr.heap.size, 0, none⟩ = some (.int .i64 op) ∧ w'.cell? ⟨wr.heap.size, 1, none⟩ = some (.int .i64 si) ∧ w'.cell? ⟨wr.heap.size, 2, none⟩ = some (.slice ua un uc)) (exact hG.out) (first
          | (go_at_call 13; refine (HWR.out _ _ _ _ hD6 hx6).mono ?_; rintro e w7 ⟨rfl, hD7, hO7⟩; have hG := Lib.hid (cell3 (hO7.blk hk6 HNB.out)))
          | (go_at_call 12; refine (HFU.out _ (by first | exact Below.refl _ _ | exact (Below.refl _ _).drew)).mono ?_; rintro e w6 ⟨x6, rfl, hx6, hb6⟩; obtain ⟨ya, yn, yc, rfl⟩ := hx6.sl.val; have hb6 : Below w5.heap.size w5 w6 := ⟨hb6.os, hb6.tape, hb6.output, hb6.size, hb6.block⟩; have hD6 := HD.out.below hb6; have hk6 := HKB.out.belowS hb6; have hG := Lib.hid (cell3 hk6)))
        all_goals
          have hx7 := (HX.out.below hb6).dev hD6 hO7
          have hbw6 := HB.out.trans (hb6.mono HB.out.size)
          have hbw7 := Only.belowOf hbw6 hO7 hbw6.size (fun k hk => HGE.out k (by simp at hk ⊢; omega))
          have HF := Lib.hid (show ∃ d', KInv S d' ∧ Dev w7 g b d' ∧ OBs w7 0 (.slice xa 8 xc) S ∧ Below w.heap.size w w7 from ⟨_, HI.out.wrote _ _, hD7, hx7, hbw7⟩)
          clear hx6 hb6 hD6 hk6 hO7 hbw6 hG hx7 hbw7 hD7
          go_wp2
          obtain ⟨d', hF⟩ := HF.out
          exact ⟨⟨k + 1, d', hlt, by go_num, hF⟩, by simp [intOf]; omega⟩
      · have hkI2 : ¬ (k : Int) < 10 := by omega
        have HX := Lib.hid hxA
        have HD := Lib.hid hDA
        have HB := Lib.hid hbwA
        clear hxA hDA hbwA kB hsuA
        go_wp2
        go_roundw
        case rel => exact ⟨k + 1, d, hlt, by go_num, HI.out, HD.out, HX.out, HB.out⟩
        case measure => simp [intOf]; omega
    · have hkI : ¬ (k : Int) < (l.length : Int) := by omega
      generalize wr = v0 at *
      have HIM := Lib.hid (dimage_any v0 g b d hD)
      have HI := Lib.hid hI
      have HD := Lib.hid hD
      have HX := Lib.hid hx
      have HB := Lib.hid hbw
      clear hI hD hx hbw
      go_wp2_with fail
      refine HIM.out.mono ?_
      rintro e v1 ⟨x2, rfl, hx2, hb1⟩
      obtain ⟨na, nc, rfl⟩ : ∃ a c, x2 = Value.slice a 8 c := by
        obtain ⟨a, c, e⟩ := hx2.val
        rw [List.length_map, HI.out.len] at e
        exact ⟨a, c, e⟩
      have HD1 := Lib.hid (HD.out.below hb1)
      have HX1 := Lib.hid (HX.out.below hb1)
      have HN1 := Lib.hid (hx2.base (Nat.zero_le _))
      have HB1 := Lib.hid (below_trans2 HB.out hb1)
      have HCP := Lib.hid (dcopy_any v1 g b d HD1.out)
      have HNB := Lib.hid (show ∀ p ∈ d.l.map Sec.now, IsB p from fun p hp => by
        obtain ⟨s, hs, rfl⟩ := List.mem_map.1 hp
        exact (HD1.out.ok s hs).2.2.1)
      clear hx2 hb1 HIM HD HX HB
      go_wp2_with fail
      refine HCP.out.mono ?_
      rintro e v2 ⟨s, b', rfl, hs, hb', hC2, hb2⟩
      have hD2 := HD1.out.below hb2
      have hx2 := HX1.out.below hb2
      have hn2 := HN1.out.below hb2
      have hbw2 := below_trans2 HB1.out hb2
      have hlt2 : g < v1.heap.size ∧ b < v1.heap.size := by
        obtain ⟨cap, _, _, k1⟩ := HD1.out.blk
        exact ⟨k1.lt, HD1.out.row.lt⟩
      have HNE := Lib.hid (show g ≠ s ∧ g ≠ b' ∧ b ≠ s ∧ b ≠ b' ∧ w.heap.size ≤ s ∧ w.heap.size ≤ b' from by have := HB1.out.size; omega)
      have hbL : Below v2.heap.size v2 (v2.alloc (.cells #[.int .u8 1] 5)) := (Below.refl _ _).alloc (Nat.le_refl _) _
      have HRP := Lib.hid (repeat_any 1 9 _ _ (by omega) (by omega) (Sl.lit v2 #[.int .u8 1] 5 (by simp [maxLen])))
      have HC2 := Lib.hid (hC2.below hbL)
      have HD2 := Lib.hid (hD2.below hbL)
      have HX2 := Lib.hid (hx2.below hbL)
      have HN2 := Lib.hid (hn2.below hbL)
      have HB2 := Lib.hid (below_trans2 hbw2 hbL)
      clear hs hb' hC2 hb2 hD2 hx2 hn2 hbw2 hlt2 hbL HCP HD1 HX1 HN1 HB1
      generalize hv3 : (v2.alloc (.cells #[.int .u8 1] 5)) = v3 at *
      have HV3 := Lib.hid hv3
      clear hv3
      go_wp2_with fail
      rw [HV3.out]
      refine HRP.out.mono ?_
      rintro e v4 ⟨rfl, hx9, ⟨cur9, k9⟩, hb4⟩
      have hC4 := HC2.out.below hb4
      have hD4 := HD2.out.below hb4
      have hx4 := HX2.out.below hb4
      have hn4 := HN2.out.below hb4
      have hbw4 := below_trans2 HB2.out hb4
      have HB9 : IsB (List.replicate 9 (1 : Int)) := fun x hx => by obtain ⟨_, rfl⟩ := List.mem_replicate.1 hx; omega
      have HCC := Lib.hid (dcrash_any v4 s b' d _ (List.replicate 9 1) hC4 hx9 (fun o n c hn e => by
        injection e with e1 e2 e3
        injection e1 with e1
        injection e1 with e1
        have := HC2.out.row.lt
        omega))
      have HCR := Lib.hid (crash_ones d HI.out.len)
      generalize hones : d.crash (List.replicate 9 1) = dc at *
      have HC4 := Lib.hid hC4
      have HD4 := Lib.hid hD4
      have HX4 := Lib.hid hx4
      have HN4 := Lib.hid hn4
      have HB4 := Lib.hid hbw4
      clear hC4 hD4 hx4 hn4 hbw4 hx9 k9 hb4 HRP HC2 HD2 HX2 HN2 HB2 HB9 hones
      go_wp2_with fail
      refine HCC.out.mono ?_
      rintro e v5 ⟨rfl, hC5, hO5⟩
      have hD5 := HD4.out.only hO5 (by have := HNE.out; simp; omega) (by have := HNE.out; simp; omega)
      have hx5 := HX4.out.dev HC4.out hO5
      have hn5 := HN4.out.dev HC4.out hO5
      have hbw5 := Only.belowOf HB4.out hO5 HB4.out.size (fun k hk => by have := HNE.out; simp at hk; omega)
      have HCK := Lib.hid (dcrash_any v5 g b d (.slice ka kn kc) keep hD5 (HSK.out.below hbw5 (Nat.le_refl _)) (fun o n c hn => HSK.out.neB (HGE.out b (by simp)) o n c hn))
      have HC5 := Lib.hid hC5
      have HD5 := Lib.hid hD5
      have HX5 := Lib.hid hx5
      have HN5 := Lib.hid hn5
      have HB5 := Lib.hid hbw5
      clear hC5 hO5 hD5 hx5 hn5 hbw5 HCC HC4 HD4 HX4 HN4 HB4
      go_wp2_with fail
      refine HCK.out.mono ?_
      rintro e v6 ⟨rfl, hD6, hO6⟩
      have hC6 := HC5.out.only hO6 (by have := HNE.out; simp; omega) (by have := HNE.out; simp; omega)
      have hx6 := HX5.out.dev HD5.out hO6
      have hn6 := HN5.out.dev HD5.out hO6
      have hbw6 := Only.belowOf HB5.out hO6 HB5.out.size (fun k hk => HGE.out k (by simp at hk ⊢; omega))
      have HWL := Lib.hid (crash_wl d keep)
      have HOR := Lib.hid (crash_or d keep)
      have HLN := Lib.hid ((crash_len d keep).trans HI.out.len)
      generalize d.crash keep = dk at *
      have HIM := Lib.hid (dimage_any v6 g b dk hD6)
      have HC6 := Lib.hid hC6
      have HD6 := Lib.hid hD6
      have HX6 := Lib.hid hx6
      have HN6 := Lib.hid hn6
      have HB6 := Lib.hid hbw6
      clear hC6 hD6 hO6 hx6 hn6 hbw6 HCK HC5 HD5 HX5 HN5 HB5
      go_wp2_with fail
      refine HIM.out.mono ?_
      rintro e v7 ⟨x3, rfl, hx3, hb7⟩
      obtain ⟨ga, gc, rfl⟩ : ∃ a c, x3 = Value.slice a 8 c := by
        obtain ⟨a, c, e⟩ := hx3.val
        rw [List.length_map, HLN.out] at e
        exact ⟨a, c, e⟩
      have HC7 := Lib.hid (HC6.out.below hb7)
      have HD7 := Lib.hid (HD6.out.below hb7)
      have HX7 := Lib.hid (HX6.out.below hb7)
      have HN7 := Lib.hid (HN6.out.below hb7)
      have HG7 := Lib.hid (hx3.base (Nat.zero_le _))
      have HB7 := Lib.hid (below_trans2 HB6.out hb7)
      clear hx3 hb7 HIM HC6 HD6 HX6 HN6 HB6
      go_wp2
      go_loopw [83] (fun i wr => ∃ k : Nat, k ≤ 8 ∧ i = .int .i64 k ∧ Below v7.heap.size v7 wr) (fun i _ => 8 - (intOf i).toNat)
      case atStart => exact ⟨0, by omega, rfl, Below.refl _ _⟩
      case round =>
        obtain ⟨k, hk, rfl, hbr⟩ := hrel
        by_cases hlt : k < 8
        · have hkI : (k : Int) < 8 := by omega
          have hN3 : (dk.l.map Sec.now).length = 8 := by rw [List.length_map]; exact HLN.out
          have hN2 : (d.l.map Sec.now).length = 8 := by rw [List.length_map]; exact HI.out.len
          have e3 : (dk.l.map Sec.now)[k]? = some ((dk.l.map Sec.now).getD k []) := by rw [List.getD_eq_getElem?_getD, List.getElem?_eq_getElem (by omega)]; rfl
          have e2 : (d.l.map Sec.now)[k]? = some ((d.l.map Sec.now).getD k []) := by rw [List.getD_eq_getElem?_getD, List.getElem?_eq_getElem (by omega)]; rfl
          have e1 : S[k]? = some (S.getD k []) := by rw [List.getD_eq_getElem?_getD, List.getElem?_eq_getElem (by rw [HSN.out]; omega)]; rfl
          have hor := HOR.out k
          rw [HI.out.kept] at hor
          have i3 : IsB ((dk.l.map Sec.now).getD k []) := by
            obtain ⟨s, hs, q⟩ := List.mem_map.1 (List.mem_of_getElem? e3)
            rw [← q]; exact (HD7.out.ok s hs).2.2.1
          have i2 := HNB.out _ (List.mem_of_getElem? e2)
          have i1 := HSB.out _ (List.mem_of_getElem? e1)
          obtain ⟨b3, u3, rfl, _, c3, _, o3⟩ := (HG7.out.below hbr).at e3
          obtain ⟨b2, u2, rfl, _, c2, _, o2⟩ := (HN7.out.below hbr).at e2
          obtain ⟨b1, u1, rfl, _, c1, _, o1⟩ := (HX7.out.below hbr).at e1
          generalize (dk.l.map Sec.now).getD k [] = P3 at *
          generalize (d.l.map Sec.now).getD k [] = P2 at *
          generalize S.getD k [] = P1 at *
          obtain ⟨a3, n3, k3, rfl⟩ := o3.sl.val
          obtain ⟨a2, n2, k2, rfl⟩ := o2.sl.val
          obtain ⟨a1, n1, k1, rfl⟩ := o1.sl.val
          have sl3 := fun n => o3.sl.below (below_drewN (Below.refl wr.heap.size wr) n) (Nat.le_refl _)
          have sl2 := fun n => o2.sl.below (below_drewN (Below.refl wr.heap.size wr) n) (Nat.le_refl _)
          have sl1 := fun n => o1.sl.below (below_drewN (Below.refl wr.heap.size wr) n) (Nat.le_refl _)
          have HBR := Lib.hid (fun n => below_drewN hbr n)
          by_cases hq : P3 = P2
          · have HE1 := Lib.hid (fun n => (show Calls Try.prog 17 #[.slice a3 n3 k3, .slice a2 n2 k2] (wr.drewN n) fun e w' => e = .returned (.bool true) ∧ w' = wr.drewN n from by
              have h := bytesEq_any _ _ P3 P2 _ (sl3 n) (sl2 n) i3 i2
              rw [decide_eq_true hq] at h
              exact h.mono fun e w' q => ⟨q.1, q.2.symm⟩))
            clear hor hq sl3 sl2 sl1 e3 e2 e1 i3 i2 i1 o3 o2 o1 hbr hN3 hN2
            go_upto_region 21 with (fail)
            go_quiet (first | (go_at_call 17; refine Calls.quiet_of_same (HE1.out _)))
            have hbq := HBR.out nq
            generalize wr.drewN nq = w9 at *
            go_wp2
            go_roundw
            case rel => exact ⟨k + 1, by omega, by go_num, hbq⟩
            case measure => simp [intOf]; omega
          · have HE1 := Lib.hid (fun n => (show Calls Try.prog 17 #[.slice a3 n3 k3, .slice a2 n2 k2] (wr.drewN n) fun e w' => e = .returned (.bool false) ∧ w' = wr.drewN n from by
              have h := bytesEq_any _ _ P3 P2 _ (sl3 n) (sl2 n) i3 i2
              rw [decide_eq_false hq] at h
              exact h.mono fun e w' q => ⟨q.1, q.2.symm⟩))
            have HE2 := Lib.hid (fun n => (show Calls Try.prog 17 #[.slice a3 n3 k3, .slice a1 n1 k1] (wr.drewN n) fun e w' => e = .returned (.bool true) ∧ w' = wr.drewN n from by
              have h := bytesEq_any _ _ P3 P1 _ (sl3 n) (sl1 n) i3 i1
              rw [decide_eq_true (hor.resolve_left hq)] at h
              exact h.mono fun e w' q => ⟨q.1, q.2.symm⟩))
            clear hor hq sl3 sl2 sl1 e3 e2 e1 i3 i2 i1 o3 o2 o1 hbr hN3 hN2
            go_upto_region 21 with (fail)
            go_quiet (first
              | (go_at_call 17; refine Calls.quiet_of_same (HE1.out _))
              | (go_at_call 17; refine Calls.quiet_of_same (HE2.out _)))
            have hbq := HBR.out nq
            generalize wr.drewN nq = w9 at *
            go_wp2
            go_roundw
            case rel => exact ⟨k + 1, by omega, by go_num, hbq⟩
            case measure => simp [intOf]; omega
        · obtain rfl : k = 8 := by omega
          have HIM := Lib.hid (dimage_any wr s b' dc (HC7.out.below hbr))
          have HD8 := Lib.hid (HD7.out.below hbr)
          have HN8 := Lib.hid (HN7.out.below hbr)
          have HB8 := Lib.hid (below_trans2 HB7.out hbr)
          clear hbr
          go_wp2_with fail
          refine HIM.out.mono ?_
          rintro e w8 ⟨x4, rfl, hx4, hb8⟩
          rw [HCR.out] at hx4
          obtain ⟨pa, pc, rfl⟩ : ∃ a c, x4 = Value.slice a 8 c := by
            obtain ⟨a, c, e⟩ := hx4.val
            rw [List.length_map, HI.out.len] at e
            exact ⟨a, c, e⟩
          have HST := Lib.hid (sameTexts_any _ _ _ _ w8 hx4.sls (HN8.out.below hb8).sls HNB.out HNB.out)
          rw [decide_eq_true rfl] at HST
          have HWA := Lib.hid (dwaits_any w8 g b dk (HD8.out.below hb8))
          have HB9 := Lib.hid (below_trans2 HB8.out hb8)
          clear hx4 hb8 HIM HD8 HN8 HB8
          go_wp2_with fail
          refine HST.out.mono ?_
          rintro e w9 ⟨rfl, rfl⟩
          go_wp2_with fail
          refine HWA.out.mono ?_
          rintro e w10 ⟨x5, rfl, hx5, hb10⟩
          rw [HWL.out] at hx5
          obtain ⟨ra, rn, rc, rfl⟩ := (Sl.of_owns hx5).val
          have HEQ := Lib.hid (eqInts_any (.slice ra rn rc) (.slice none 0 0) [] [] w10 (Sl.of_owns hx5) (Sl.nil _))
          rw [decide_eq_true rfl] at HEQ
          have HB10 := Lib.hid (below_trans2 HB9.out hb10)
          clear hx5 hb10 HST HWA HB9
          go_wp2_with fail
          refine HEQ.out.mono ?_
          rintro e w11 ⟨rfl, hb11⟩
          have HAW := Lib.hid (deviceAwake_any w11)
          have HB11 := Lib.hid (below_trans2 HB10.out hb11)
          clear hb11 HEQ HB10
          go_wp2_with fail
          refine HAW.out.mono ?_
          rintro e w12 ⟨rfl, hb12⟩
          have hbf := below_trans2 HB11.out hb12
          clear hb12
          go_wp2
          go_ret
          exact ⟨rfl, hbf⟩

end Go.Proofs.Yteaimjfpmacgeaa
