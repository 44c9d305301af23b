/- Devices: two devices of so many sectors, with steps done on both (printed by gen_devs.py). -/
import Derived.Test.YteaimjfpmacgeaaSameD
namespace Go.Proofs.Yteaimjfpmacgeaa
open Go.RowKit
set_option linter.unusedVariables false

theorem step_len (d : DSt) (p : Stp) : (d.step p).l.length = d.l.length := by
  have h1 : ∀ i bs, (d.wrote i bs).l.length = d.l.length := fun i bs => by
    unfold DSt.wrote
    split
    · split
      · rw [chg_l]
      · show (d.l.modify _ _).length = _
        rw [List.length_modify]
    · rfl
  unfold DSt.step
  split
  · exact h1 _ _
  · split
    · exact h1 _ _
    · split
      · unfold DSt.synced
        split
        · rw [chg_l]
        · show (List.mapIdx _ _).length = _
          rw [List.length_mapIdx]
      · split
        · unfold DSt.fuse; split <;> rfl
        · show (crashL _ _).length = _
          unfold crashL; rw [List.length_mapIdx]

set_option maxRecDepth 100000 in
set_option maxHeartbeats 4000000 in
theorem devices_any (n : Nat) (vl : Value) (l : List Stp) (w : World) (h1 : 1 ≤ n) (h2 : n ≤ 16384) (hL : ∀ p ∈ l, StpB p) (hl : Stps w vl l) :
    Calls Try.prog 28 #[.int .i64 n, vl] w fun e w' => ∃ g b y gl gk gw d, e = .returned (.tuple #[.pointer (some ⟨g, 0, none⟩), .pointer (some ⟨y, 0, none⟩), .bool true]) ∧ (∀ k ∈ [g, b, y, gl, gk, gw], w.heap.size ≤ k) ∧ Pair w' g b y gl gk gw d ∧ d.l.length = n ∧ Below w.heap.size w w' := by
  have HSL := Lib.hid hl
  have HLB := Lib.hid hL
  obtain ⟨la, lc, rfl, hlc, hlm⟩ := hl.shape
  clear hl hL
  have HNW := Lib.hid (dnew_ok n w h1 h2)
  have HRW := Lib.hid (fun w' => rnew_ok n w' h1 h2)
  go_enter Try.func28, Try.ntmps28
  go_wp2_with fail
  refine HNW.out.mono ?_
  rintro e w1 ⟨g, b, rfl, hg, hb, hD1, hb1⟩
  have HD1 := Lib.hid hD1
  have HB1 := Lib.hid hb1
  clear hD1 hb1 HNW
  go_wp2_with fail
  refine (HRW.out w1).mono ?_
  rintro e w2 ⟨y, gl, gk, gw, rfl, hge, hR2, hb2⟩
  have HP2 := Lib.hid (show Pair w2 g b y gl gk gw (newD n) from ⟨HD1.out.below hb2, hR2⟩)
  have HB2 := Lib.hid (below_trans2 HB1.out hb2)
  have HGE := Lib.hid (show ∀ k ∈ [g, b, y, gl, gk, gw], w.heap.size ≤ k from by
    intro k hk
    rcases List.mem_cons.1 hk with rfl | hk
    · exact hg
    · rcases List.mem_cons.1 hk with rfl | hk
      · exact hb
      · exact Nat.le_trans HB1.out.size (hge k hk))
  clear hg hb hge hR2 hb2 HD1 HB1 HRW h1 h2
  go_wp2
  go_loopw [38] (fun i wr => ∃ (k : Nat) (d : DSt), k ≤ l.length ∧ i = .int .i64 k ∧ Pair wr g b y gl gk gw d ∧ d.l.length = n ∧ Below w.heap.size w wr) (fun i _ => l.length - (intOf i).toNat)
  case atStart => exact ⟨0, newD n, by omega, rfl, HP2.out, by simp [newD], HB2.out⟩
  case round =>
    clear HP2 HB2
    obtain ⟨k, d, hk, rfl, hP, hdl, hbw⟩ := hrel
    have HDL := Lib.hid hdl
    clear hdl
    by_cases hlt : k < l.length
    · have hkI : (k : Int) < (l.length : Int) := by omega
      obtain ⟨sb, so, rfl, hsb, u, c0, c1, c2, hsu⟩ := HSL.out.at hlt
      have c0 := (hbw.cell (p := ⟨sb, so + k * 3, none⟩) hsb).trans c0
      have c1 := (hbw.cell (p := ⟨sb, so + k * 3 + 1, none⟩) hsb).trans c1
      have c2 := (hbw.cell (p := ⟨sb, so + k * 3 + 2, none⟩) hsb).trans c2
      have HPB := Lib.hid (HLB.out _ (List.getElem_mem hlt))
      generalize l[k] = p at *
      obtain ⟨op, si, sbs⟩ := p
      obtain ⟨ua, un, uc, rfl⟩ := hsu.val
      have hoff : Off (.slice ua un uc) [g, b, y, gl, gk, gw] := fun m hm o n c hn => hsu.neB (HGE.out m hm) o n c hn
      have hbA : Below wr.heap.size wr (wr.alloc (.cells #[.int .i64 op, .int .i64 si, .slice ua un uc] 36)) := (Below.refl _ _).alloc (Nat.le_refl _) _
      have kB := Blk.new wr 36 #[.int .i64 op, .int .i64 si, .slice ua un uc]
      obtain ⟨z0, z1, z2⟩ := cell3 kB
      have hPA : Pair (wr.alloc (.cells #[.int .i64 op, .int .i64 si, .slice ua un uc] 36)) g b y gl gk gw d := ⟨hP.dev.below hbA, hP.ref.below hbA⟩
      have hbwA := hbw.trans (hbA.mono hbw.size)
      have HUA := Lib.hid (hsu.below hbwA (Nat.le_refl _))
      have HPA := Lib.hid hPA
      have HBA := Lib.hid hbwA
      have HOF := Lib.hid hoff
      clear hP hbw hsu hbA kB hPA hbwA hoff
      by_cases hk40 : k < 40
      · have hkI2 : (k : Int) < 40 := by omega
        have HDO := Lib.hid (do_any _ g b y gl gk gw d op si (.slice ua un uc) sbs HPA.out HPB.out HUA.out HOF.out)
        go_wp2_with fail
        refine HDO.out.mono ?_
        rintro e w3 ⟨rfl, hP3, hO3⟩
        have hb3 := Only.belowOf HBA.out hO3 HBA.out.size HGE.out
        have HF := Lib.hid hP3
        have HB4 := Lib.hid hb3
        have HSL2 := Lib.hid ((step_len d (op, si, sbs)).trans HDL.out)
        clear hP3 hO3 hb3 HDO
        go_wp2
        go_roundw
        case rel => exact ⟨k + 1, _, hlt, by go_num, HF.out, HSL2.out, HB4.out⟩
        case measure => simp [intOf]; omega
      · have hkI2 : ¬ (k : Int) < 40 := by omega
        go_wp2
        go_roundw
        case rel => exact ⟨k + 1, d, hlt, by go_num, HPA.out, HDL.out, HBA.out⟩
        case measure => simp [intOf]; omega
    · obtain rfl : k = l.length := by omega
      have hkI : ¬ (l.length : Int) < (l.length : Int) := by omega
      have HSA := Lib.hid (same_any wr g b y gl gk gw d hP)
      have HP := Lib.hid hP
      have HB := Lib.hid hbw
      clear hP hbw
      go_wp2_with fail
      refine HSA.out.mono ?_
      rintro e w5 ⟨rfl, hb5⟩
      have HF := Lib.hid (show Pair w5 g b y gl gk gw d from ⟨HP.out.dev.below hb5, HP.out.ref.below hb5⟩)
      have hb6 := below_trans2 HB.out hb5
      have HB6 := Lib.hid hb6
      clear hb5 hb6 HP HSA HB
      go_wp2
      first | go_ret3 | go_ret2
      exact ⟨g, b, y, gl, gk, gw, d, rfl, HGE.out, HF.out, HDL.out, HB6.out⟩

end Go.Proofs.Yteaimjfpmacgeaa
