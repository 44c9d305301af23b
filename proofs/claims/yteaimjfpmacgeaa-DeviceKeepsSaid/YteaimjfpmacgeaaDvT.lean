/- A device: what was synced is read behind a crash: the walk of the law DeviceStays. -/
import Derived.Test.YteaimjfpmacgeaaDvF
import Derived.Test.YteaimjfpmacgeaaDvH
import Derived.Test.YteaimjfpmacgeaaDvI
import Derived.Test.YteaimjfpmacgeaaDvS
import Derived.Deep.RegionHeld3
import Derived.Deep.Cut
namespace Go.Proofs.Yteaimjfpmacgeaa
open Go.RowKit
set_option linter.unusedVariables false

theorem Sl.neB {w : World} {v : Value} {xs : List Value} {b : Nat} (h : Sl w v xs) (hb : w.heap.size ≤ b) : ∀ o n c, 0 < n → v ≠ .slice (some ⟨b, o, none⟩) n c := by
  obtain ⟨a, cap, rfl, h1, h2, h3⟩ := h
  intro o n c hn e
  injection e with e1 e2 e3
  obtain ⟨b', off, e4, hlt, _⟩ := h3 (by omega)
  rw [e1] at e4
  injection e4 with e4
  injection e4 with e5
  omega
theorem OB.neB {w : World} {base : Nat} {v : Value} {bs : List Int} {b : Nat} {l : List Sec} (h : OB w base v bs) (hr : SRow w b l) : ∀ o n c, 0 < n → v ≠ .slice (some ⟨b, o, none⟩) n c := by
  intro o n c hn e
  subst e
  obtain ⟨cur, k⟩ := owns_blk h (g := b) (by
    rcases h.2 with ⟨e, _⟩ | ⟨g, cap, cur, e, _⟩
    · cases e
    · cases e; rfl)
  obtain ⟨cur2, k2⟩ := hr.typ
  exact Blk.ne_ k k2 (by decide) rfl
theorem Dev.noB {w : World} {g b : Nat} {d : DSt} (h : Dev w g b d) : ∀ k ∈ [g, b], ∀ cur, ¬ Blk w k 5 cur ∧ ¬ Blk w k 29 cur := by
  intro k hk cur
  obtain ⟨cap, _, _, k1⟩ := h.blk
  obtain ⟨cur2, k2⟩ := h.row.typ
  rcases List.mem_cons.1 hk with rfl | hk
  · exact ⟨fun q => Blk.ne_ q k1 (by decide) rfl, fun q => Blk.ne_ q k1 (by decide) rfl⟩
  · obtain rfl : k = b := by simpa using hk
    exact ⟨fun q => Blk.ne_ q k2 (by decide) rfl, fun q => Blk.ne_ q k2 (by decide) rfl⟩
theorem OB.dev {w w' : World} {base : Nat} {v : Value} {bs : List Int} {g b : Nat} {d : DSt} (h : OB w base v bs) (hd : Dev w g b d) (ho : Only [g, b] w w') : OB w' base v bs :=
  h.only ho fun k hk cur => (hd.noB k hk cur).1

/-- What was synced in sector 3. -/
structure InvS (F : List Int) (d : DSt) : Prop where
  dead : d.dead = false
  fused : d.fused = false
  len : d.l.length = 6
  at3 : d.l[3]? = some { now := F, kept := F, waits := false }
theorem InvS.stops {F : List Int} {d : DSt} (h : InvS F d) : d.stops = false := by unfold DSt.stops; rw [h.dead, h.fused]; rfl
theorem chg_no {d : DSt} (h : d.stops = false) : d.chg.dead = d.dead ∧ d.chg.fused = d.fused ∧ d.chgE = 0 := by
  unfold DSt.chg DSt.chgE
  rw [h]
  exact ⟨rfl, rfl, rfl⟩
theorem InvS.wrote {F : List Int} {d : DSt} (h : InvS F d) {i : Int} (hi : i ≠ 3) (bs : List Int) : InvS F (d.wrote i bs) := by
  unfold DSt.wrote
  split
  · rename_i hq
    rw [if_neg (by rw [h.stops]; simp)]
    obtain ⟨e1, e2, _⟩ := chg_no h.stops
    have hx : 0 ≤ i := by have := hq.1; unfold DSt.has at this; exact (of_decide_eq_true this).1
    refine ⟨e1.trans h.dead, e2.trans h.fused, by show (d.l.modify _ _).length = 6; rw [List.length_modify]; exact h.len, ?_⟩
    show (d.l.modify i.toNat _)[3]? = _
    rw [List.getElem?_modify, h.at3]
    have hn : ¬ i.toNat = 3 := by omega
    show some (if i.toNat = 3 then _ else _) = _
    rw [if_neg hn]
  · exact h
theorem InvS.crash {F : List Int} {d : DSt} (h : InvS F d) (keep : List Int) : InvS F (d.crash keep) := by
  refine ⟨rfl, rfl, by show (crashL d.l keep).length = 6; unfold crashL; rw [List.length_mapIdx]; exact h.len, ?_⟩
  show (crashL d.l keep)[3]? = _
  unfold crashL
  rw [List.getElem?_mapIdx, h.at3]
  rfl
theorem InvS.read {F : List Int} {d : DSt} (h : InvS F d) : d.rdE 3 = 0 ∧ d.rd 3 = F := by
  have e : d.rdE 3 = 0 := by
    unfold DSt.rdE
    rw [if_pos (by unfold DSt.has; rw [decide_eq_true_eq, h.len]; omega), h.dead]; rfl
  refine ⟨e, ?_⟩
  unfold DSt.rd
  rw [if_pos e, List.getD_eq_getElem?_getD, List.getElem?_map, show (3 : Int).toNat = 3 from rfl, h.at3]; rfl
theorem stays_init {F : List Int} (hF : F.length = 64) : (newD 6).wrE 3 F = 0 ∧ ((newD 6).wrote 3 F).chgE = 0 ∧ InvS F ((newD 6).wrote 3 F).synced := by
  have h1 : (newD 6).has 3 = true := by unfold DSt.has newD; simp
  have h2 : (newD 6).stops = false := rfl
  have e : (newD 6).wrote 3 F = { (newD 6).chg with l := (newD 6).l.modify 3 fun s => s.wrote F } := by
    unfold DSt.wrote
    rw [if_pos ⟨h1, hF⟩, if_neg (by rw [h2]; simp)]; rfl
  obtain ⟨q1, q2, q3⟩ := chg_no h2
  have h3 : ((newD 6).wrote 3 F).stops = false := by
    rw [e]; unfold DSt.stops
    show ((newD 6).chg.dead || ((newD 6).chg.fused && _)) = false
    rw [q1, q2]; rfl
  obtain ⟨r1, r2, r3⟩ := chg_no h3
  refine ⟨by unfold DSt.wrE; rw [if_pos h1, if_pos hF]; exact q3, r3, ?_⟩
  unfold DSt.synced
  rw [if_neg (by rw [h3]; simp)]
  refine ⟨r1.trans (by rw [e]; exact q1), r2.trans (by rw [e]; exact q2), ?_, ?_⟩
  · show (List.mapIdx _ _).length = 6
    rw [List.length_mapIdx, e]
    show ((newD 6).l.modify _ _).length = 6
    rw [List.length_modify]; simp [newD]
  · show (List.mapIdx _ _)[3]? = _
    rw [List.getElem?_mapIdx, e]
    show ((newD 6).l.modify 3 _)[3]?.map _ = _
    rw [List.getElem?_modify]
    simp [newD, Sec.settled, Sec.wrote]

set_option maxRecDepth 100000 in
set_option maxHeartbeats 4000000 in
theorem deviceStays_walk (vb : Value) (bs : List Int) (vl : Value) (l : List Stp) (vk : Value) (keep : List Int) (w : World) (hB : IsB bs) (hsb : Sl w vb (bs.map (Value.int .u8))) (hL : ∀ p ∈ l, StpB p) (hl : Stps w vl l) (hK : IsB keep) (hsk : Sl w vk (keep.map (Value.int .u8))) :
    Calls Try.prog 4 #[vb, vl, vk] w fun e w' => e = .returned (.bool true) ∧ Below w.heap.size w w' := by
  have HNW := Lib.hid (dnew_ok 6 w (by omega) (by omega))
  have HSB := Lib.hid hsb
  have HSL := Lib.hid hl
  have HSK := Lib.hid hsk
  obtain ⟨ba, bn, bc, rfl⟩ := hsb.val
  obtain ⟨la, lc, rfl, hlc, hlm⟩ := hl.shape
  obtain ⟨ka, kn, kc, rfl⟩ := hsk.val
  have HFL := Lib.hid (padTo_len 64 bs)
  have HFB := Lib.hid (padTo_isB hB 64)
  have HIN := Lib.hid (stays_init HFL.out)
  have HLB := Lib.hid hL
  clear hsb hl hsk hL
  go_enter Try.func4, Try.ntmps4
  go_wp2_with fail
  refine HNW.out.mono ?_
  rintro e w1 ⟨g, b, rfl, hg, hb, hD1, hb1⟩
  have HFU := Lib.hid (full_any 0 0 _ bs w1 (HSB.out.below hb1 (Nat.le_refl _)))
  go_wp2_with fail
  refine HFU.out.mono ?_
  rintro e w2 ⟨x, rfl, hx2, hb2⟩
  generalize padTo 64 bs = F at *
  obtain ⟨xa, xn, xc, rfl⟩ := hx2.sl.val
  have hD2 := hD1.below hb2
  have hbw2 := below_trans2 hb1 hb2
  have HWR := Lib.hid (dwrite_any w2 g b (newD 6) 3 _ F hD2 HFB.out hx2.sl (hx2.neB hD2.row))
  rw [HIN.out.1] at HWR
  clear HNW HFU hb1 hb2 hD1
  go_wp2_with fail
  refine HWR.out.mono ?_
  rintro e w3 ⟨rfl, hD3, hO3⟩
  have hx3 := hx2.dev hD2 hO3
  have hbw3 := Only.belowOf hbw2 hO3 hbw2.size (by simp; omega)
  have HSY := Lib.hid (dsync_any w3 g b _ hD3)
  rw [HIN.out.2.1] at HSY
  clear HWR hx2 hD2 hO3 hbw2
  go_wp2_with fail
  refine HSY.out.mono ?_
  rintro e w4 ⟨rfl, hD4, hO4⟩
  have hx4 := hx3.dev hD3 hO4
  have hbw4 := Only.belowOf hbw3 hO4 hbw3.size (by simp; omega)
  have HI4 := Lib.hid HIN.out.2.2
  generalize ((newD 6).wrote 3 F).synced = d4 at *
  clear HSY HIN hx3 hD3 hO4 hbw3
  have HX4 := Lib.hid hx4
  have HD4 := Lib.hid hD4
  have HB4 := Lib.hid hbw4
  clear hx4 hD4 hbw4
  go_wp2
  go_loopw [35] (fun i wr => ∃ (k : Nat) (d : DSt), k ≤ l.length ∧ i = .int .i64 k ∧ InvS F d ∧ Dev wr g b d ∧ OB wr w1.heap.size (.slice xa xn xc) F ∧ Below w.heap.size w wr) (fun i _ => l.length - (intOf i).toNat)
  case atStart => exact ⟨0, d4, by omega, rfl, HI4.out, HD4.out, HX4.out, HB4.out⟩
  case round =>
    clear HX4 HD4 HB4
    obtain ⟨k, d, hk, rfl, hI, hD, hx, hbw⟩ := hrel
    by_cases hlt : k < l.length
    · have hkI : (k : Int) < (l.length : Int) := by omega
      obtain ⟨sb, so, rfl, hsb, u, c0, c1, c2, hsu⟩ := (HSL.out.below hbw (Nat.le_refl _)).at hlt
      have HPB := Lib.hid (HLB.out _ (List.getElem_mem hlt))
      generalize l[k] = p at *
      obtain ⟨op, si, sbs⟩ := p
      obtain ⟨ua, un, uc, rfl⟩ := hsu.val
      have hbA : Below wr.heap.size wr (wr.alloc (.cells #[.int .i64 op, .int .i64 si, .slice ua un uc] 36)) := (Below.refl _ _).alloc (Nat.le_refl _) _
      have kB := Blk.new wr 36 #[.int .i64 op, .int .i64 si, .slice ua un uc]
      have hDA := hD.below hbA
      have hxA := hx.below hbA
      have hbwA := hbw.trans (hbA.mono hbw.size)
      have hsuA := hsu.below hbA (Nat.le_refl _)
      have HI := Lib.hid hI
      clear hD hx hbw hsu hbA hI
      by_cases hk20 : k < 20
      · have hkI2 : (k : Int) < 20 := by omega
        by_cases hs3 : si = 3
        · have hsb : (si != 3) = false := by rw [hs3]; rfl
          have HX := Lib.hid hxA
          have HD := Lib.hid hDA
          have HB := Lib.hid hbwA
          obtain ⟨z0, z1, z2⟩ := cell3 kB
          clear hs3 hxA hDA hbwA kB hsuA
          go_wp2
          go_roundw
          case rel => exact ⟨k + 1, d, by omega, by go_num, HI.out, HD.out, HX.out, HB.out⟩
          case measure => simp [intOf]; omega
        · have hsb : (si != 3) = true := by rw [bne_iff_ne]; exact hs3
          have HNX := Lib.hid (HI.out.wrote hs3 (padTo 64 sbs))
          have hPL := padTo_isB HPB.out.2.2 64
          have hnb : wr.heap.size ∉ [g, b] := by
            intro hm
            obtain ⟨cap, _, _, q1⟩ := hDA.blk
            obtain ⟨cur2, q2⟩ := hDA.row.typ
            rcases List.mem_cons.1 hm with e | e
            · exact Blk.ne_ kB q1 (by decide) e
            · exact Blk.ne_ kB q2 (by decide) (by simpa using e)
          clear hs3
          go_upto_region 9 with (fail)
          generalize (wr.alloc (.cells #[.int .i64 op, .int .i64 si, .slice ua un uc] 36)) = w5 at *
          have HFU := Lib.hid (fun w' (q : Below w5.heap.size w5 w') => full_any op si (.slice ua un uc) sbs w' (hsuA.below q (Nat.le_refl _)))
          have HWR := Lib.hid (fun w' base x (q1 : Dev w' g b d) (q2 : OB w' base x (padTo 64 sbs)) => dwrite_any w' g b d si x (padTo 64 sbs) q1 hPL q2.sl (q2.neB q1.row))
          have HD := Lib.hid hDA
          have HX := Lib.hid hxA
          have HB := Lib.hid hbwA
          have HKB := Lib.hid kB
          have HNB := Lib.hid hnb
          have hG := Lib.hid (cell3 kB)
          clear hsuA hDA hxA hbwA hPL kB hnb
          go_wp2
          go_region_held3 (fun w' => w'.cell? ⟨wr.heap.size, 0, none⟩ = some (.int .i64 op) ∧ w'.cell? ⟨wr.heap.size, 1, none⟩ = some (.int .i64 si) ∧ w'.cell? ⟨wr.heap.size, 2, none⟩ = some (.slice ua un uc)) (exact hG.out) (first
            | (go_at_call 13; refine (HWR.out _ _ _ hD6 hx6).mono ?_; rintro e w7 ⟨rfl, hD7, hO7⟩; have hG := Lib.hid (cell3 (hO7.blk hk6 HNB.out)))
            | (go_at_call 12; refine (HFU.out _ (by first | exact Below.refl _ _ | exact (Below.refl _ _).drew)).mono ?_; rintro e w6 ⟨x6, rfl, hx6, hb6⟩; obtain ⟨ya, yn, yc, rfl⟩ := hx6.sl.val; have hb6 : Below w5.heap.size w5 w6 := ⟨hb6.os, hb6.tape, hb6.output, hb6.size, hb6.block⟩; have hD6 := HD.out.below hb6; have hk6 := HKB.out.belowS hb6; have hG := Lib.hid (cell3 hk6)))
          all_goals
            have hx7 := (HX.out.below hb6).dev hD6 hO7
            have hbw6 := HB.out.trans (hb6.mono HB.out.size)
            have hbw7 := Only.belowOf hbw6 hO7 hbw6.size (by simp; omega)
            clear hx6 hb6 hD6 hk6 hO7 hbw6 hG
            go_wp2
            exact ⟨⟨k + 1, _, by omega, by go_num, HNX.out, hD7, hx7, hbw7⟩, by simp [intOf]; omega⟩
      · have hkI2 : ¬ (k : Int) < 20 := by omega
        have HX := Lib.hid hxA
        have HD := Lib.hid hDA
        have HB := Lib.hid hbwA
        clear hxA hDA hbwA kB hsuA
        go_wp2
        go_roundw
        case rel => exact ⟨k + 1, d, by omega, by go_num, HI.out, HD.out, HX.out, HB.out⟩
        case measure => simp [intOf]; omega
    · have hkI : ¬ (k : Int) < (l.length : Int) := by omega
      have HCR := Lib.hid (dcrash_any wr g b d (.slice ka kn kc) keep hD (HSK.out.below hbw (Nat.le_refl _)) (fun o n c hn => HSK.out.neB hb o n c hn))
      have HI := Lib.hid (hI.crash keep)
      have HD := Lib.hid hD
      have HX := Lib.hid hx
      have HB := Lib.hid hbw
      clear hI hD hx hbw
      go_wp2_with fail
      refine HCR.out.mono ?_
      rintro e w5 ⟨rfl, hD5, hO5⟩
      have hx5 := HX.out.dev HD.out hO5
      have hbw5 := Only.belowOf HB.out hO5 HB.out.size (by simp; omega)
      have HRD := Lib.hid (dread_any w5 g b _ 3 hD5)
      rw [HI.out.read.1, HI.out.read.2] at HRD
      clear HCR HD HX HB hD5 hO5
      go_wp2_with fail
      refine HRD.out.mono ?_
      rintro e w6 ⟨y, rfl, hy, hb6⟩
      have hx6 := hx5.below hb6
      have hbw6 := hbw5.trans (hb6.mono hbw5.size)
      obtain ⟨ya, yn, yc, rfl⟩ := hy.sl.val
      have HEQ := Lib.hid (bytesEq_any _ _ F F w6 hy.sl hx6.sl HFB.out HFB.out)
      rw [decide_eq_true rfl] at HEQ
      clear hx5 hb6 hbw5 hy hx6 HRD HI
      go_wp2_with fail
      refine HEQ.out.mono ?_
      rintro e w7 ⟨rfl, rfl⟩
      go_wp2
      go_ret
      exact ⟨rfl, hbw6⟩

end Go.Proofs.Yteaimjfpmacgeaa
