/- A device lives as the document's: the walk of the law DeviceLives (printed by gen_lives.py). -/
import Derived.Test.YteaimjfpmacgeaaSameD
import Derived.Test.YteaimjfpmacgeaaDvU
import Derived.Deep.Cut
namespace Go.Proofs.Yteaimjfpmacgeaa
open Go.RowKit
set_option linter.unusedVariables false

set_option maxRecDepth 100000 in
set_option maxHeartbeats 4000000 in
theorem deviceLives_walk (sectors : Int) (vl : Value) (l : List Stp) (w : World) (hs0 : -9223372036854775808 ≤ sectors) (hs1 : sectors ≤ 9223372036854775807) (hL : ∀ p ∈ l, StpB p) (hl : Stps w vl l) :
    Calls Try.prog 6 #[.int .i64 sectors, vl] w fun e w' => e = .returned (.bool true) ∧ Below w.heap.size w w' := by
  have HSL := Lib.hid hl
  have HLB := Lib.hid hL
  obtain ⟨la, lc, rfl, hlc, hlm⟩ := hl.shape
  clear hl hL
  by_cases hbig : 40 < sectors ∧ sectors ≤ 16384
  · have hb1 : (40 : Int) < sectors := hbig.1
    have hb2 : sectors ≤ (16384 : Int) := hbig.2
    obtain ⟨m, rfl⟩ : ∃ m : Nat, sectors = m := ⟨sectors.toNat, by omega⟩
    obtain ⟨n, hn⟩ : ∃ n : Nat, n = 1 + m % 40 := ⟨_, rfl⟩
    have h1 : 1 ≤ n := by omega
    have h2 : n ≤ 16384 := by omega
    have hv : (1 : Int) + (m : Int) % 40 = (n : Int) := by omega
    clear hbig hs0 hs1 hn
    have HNW := Lib.hid (dnew_ok n w h1 h2)
    have HRW := Lib.hid (fun w' => rnew_ok n w' h1 h2)
    go_enter Try.func6, Try.ntmps6
    go_wp2_with fail
    refine HNW.out.mono ?_
    rintro e w1 ⟨g, b, rfl, hg, hb, hD1, hb1⟩
    have HD1 := Lib.hid hD1
    have HB1 := Lib.hid hb1
    clear hD1 hb1 HNW
    go_wp2_with fail
    refine (HRW.out w1).mono ?_
    rintro e w2 ⟨y, gl, gk, gw, rfl, hge, hR2, hb2⟩
    have HP2 := Lib.hid (show Pair w2 g b y gl gk gw (newD n) from ⟨HD1.out.below hb2, hR2⟩)
    have HB2 := Lib.hid (below_trans2 HB1.out hb2)
    have HGE := Lib.hid (show ∀ k ∈ [g, b, y, gl, gk, gw], w.heap.size ≤ k from by
      intro k hk
      rcases List.mem_cons.1 hk with rfl | hk
      · exact hg
      · rcases List.mem_cons.1 hk with rfl | hk
        · exact hb
        · exact Nat.le_trans HB1.out.size (hge k hk))
    clear hg hb hge hR2 hb2 HD1 HB1 HRW h1 h2
    go_wp2
    go_loopw [45] (fun i wr => ∃ (k : Nat) (d : DSt), k ≤ l.length ∧ i = .int .i64 k ∧ Pair wr g b y gl gk gw d ∧ Below w.heap.size w wr) (fun i _ => l.length - (intOf i).toNat)
    case atStart => exact ⟨0, newD n, by omega, rfl, HP2.out, HB2.out⟩
    case round =>
      clear HP2 HB2
      obtain ⟨k, d, hk, rfl, hP, hbw⟩ := hrel
      by_cases hlt : k < l.length
      · have hkI : (k : Int) < (l.length : Int) := by omega
        obtain ⟨sb, so, rfl, hsb, u, c0, c1, c2, hsu⟩ := HSL.out.at hlt
        have c0 := (hbw.cell (p := ⟨sb, so + k * 3, none⟩) hsb).trans c0
        have c1 := (hbw.cell (p := ⟨sb, so + k * 3 + 1, none⟩) hsb).trans c1
        have c2 := (hbw.cell (p := ⟨sb, so + k * 3 + 2, none⟩) hsb).trans c2
        have HPB := Lib.hid (HLB.out _ (List.getElem_mem hlt))
        generalize l[k] = p at *
        obtain ⟨op, si, sbs⟩ := p
        obtain ⟨ua, un, uc, rfl⟩ := hsu.val
        have hoff : Off (.slice ua un uc) [g, b, y, gl, gk, gw] := fun m hm o n c hn => hsu.neB (HGE.out m hm) o n c hn
        have hbA : Below wr.heap.size wr (wr.alloc (.cells #[.int .i64 op, .int .i64 si, .slice ua un uc] 36)) := (Below.refl _ _).alloc (Nat.le_refl _) _
        have kB := Blk.new wr 36 #[.int .i64 op, .int .i64 si, .slice ua un uc]
        obtain ⟨z0, z1, z2⟩ := cell3 kB
        have hPA : Pair (wr.alloc (.cells #[.int .i64 op, .int .i64 si, .slice ua un uc] 36)) g b y gl gk gw d := ⟨hP.dev.below hbA, hP.ref.below hbA⟩
        have hbwA := hbw.trans (hbA.mono hbw.size)
        have HUA := Lib.hid (hsu.below hbwA (Nat.le_refl _))
        have HPA := Lib.hid hPA
        have HBA := Lib.hid hbwA
        have HOF := Lib.hid hoff
        clear hP hbw hsu hbA kB hPA hbwA hoff
        by_cases hk40 : k < 40
        · have hkI2 : (k : Int) < 40 := by omega
          have HDO := Lib.hid (do_any _ g b y gl gk gw d op si (.slice ua un uc) sbs HPA.out HPB.out HUA.out HOF.out)
          go_wp2_with fail
          refine HDO.out.mono ?_
          rintro e w3 ⟨rfl, hP3, hO3⟩
          have hb3 := Only.belowOf HBA.out hO3 HBA.out.size HGE.out
          have HSA := Lib.hid (same_any w3 g b y gl gk gw _ hP3)
          have HP3 := Lib.hid hP3
          have HB3 := Lib.hid hb3
          clear hP3 hO3 hb3 HDO
          go_wp2_with fail
          refine HSA.out.mono ?_
          rintro e w4 ⟨rfl, hb4⟩
          have HF := Lib.hid (show Pair w4 g b y gl gk gw (d.step (op, si, sbs)) from ⟨HP3.out.dev.below hb4, HP3.out.ref.below hb4⟩)
          have HB4 := Lib.hid (below_trans2 HB3.out hb4)
          clear hb4 HSA HP3 HB3
          go_wp2
          go_roundw
          case rel => exact ⟨k + 1, _, hlt, by go_num, HF.out, HB4.out⟩
          case measure => simp [intOf]; omega
        · have hkI2 : ¬ (k : Int) < 40 := by omega
          go_wp2
          go_roundw
          case rel => exact ⟨k + 1, d, hlt, by go_num, HPA.out, HBA.out⟩
          case measure => simp [intOf]; omega
      · obtain rfl : k = l.length := by omega
        have hkI : ¬ (l.length : Int) < (l.length : Int) := by omega
        have HAW := Lib.hid (deviceAwake_any wr)
        have HB := Lib.hid hbw
        clear hP hbw
        go_wp2_with fail
        refine HAW.out.mono ?_
        rintro e w5 ⟨rfl, hb5⟩
        have hb6 := below_trans2 HB.out hb5
        clear hb5
        go_wp2
        go_ret
        exact ⟨rfl, hb6⟩
  · by_cases hin : 1 ≤ sectors ∧ sectors ≤ 16384
    · obtain ⟨n, rfl⟩ : ∃ n : Nat, sectors = n := ⟨sectors.toNat, by omega⟩
      have h1 : 1 ≤ n := by omega
      have h2 : n ≤ 16384 := by omega
      have hb1 : ¬ (40 : Int) < (n : Int) := by omega
      clear hbig hin hs0 hs1
      have HNW := Lib.hid (dnew_ok n w h1 h2)
      have HRW := Lib.hid (fun w' => rnew_ok n w' h1 h2)
      go_enter Try.func6, Try.ntmps6
      go_wp2_with fail
      refine HNW.out.mono ?_
      rintro e w1 ⟨g, b, rfl, hg, hb, hD1, hb1⟩
      have HD1 := Lib.hid hD1
      have HB1 := Lib.hid hb1
      clear hD1 hb1 HNW
      go_wp2_with fail
      refine (HRW.out w1).mono ?_
      rintro e w2 ⟨y, gl, gk, gw, rfl, hge, hR2, hb2⟩
      have HP2 := Lib.hid (show Pair w2 g b y gl gk gw (newD n) from ⟨HD1.out.below hb2, hR2⟩)
      have HB2 := Lib.hid (below_trans2 HB1.out hb2)
      have HGE := Lib.hid (show ∀ k ∈ [g, b, y, gl, gk, gw], w.heap.size ≤ k from by
        intro k hk
        rcases List.mem_cons.1 hk with rfl | hk
        · exact hg
        · rcases List.mem_cons.1 hk with rfl | hk
          · exact hb
          · exact Nat.le_trans HB1.out.size (hge k hk))
      clear hg hb hge hR2 hb2 HD1 HB1 HRW h1 h2
      go_wp2
      go_loopw [45] (fun i wr => ∃ (k : Nat) (d : DSt), k ≤ l.length ∧ i = .int .i64 k ∧ Pair wr g b y gl gk gw d ∧ Below w.heap.size w wr) (fun i _ => l.length - (intOf i).toNat)
      case atStart => exact ⟨0, newD n, by omega, rfl, HP2.out, HB2.out⟩
      case round =>
        clear HP2 HB2
        obtain ⟨k, d, hk, rfl, hP, hbw⟩ := hrel
        by_cases hlt : k < l.length
        · have hkI : (k : Int) < (l.length : Int) := by omega
          obtain ⟨sb, so, rfl, hsb, u, c0, c1, c2, hsu⟩ := HSL.out.at hlt
          have c0 := (hbw.cell (p := ⟨sb, so + k * 3, none⟩) hsb).trans c0
          have c1 := (hbw.cell (p := ⟨sb, so + k * 3 + 1, none⟩) hsb).trans c1
          have c2 := (hbw.cell (p := ⟨sb, so + k * 3 + 2, none⟩) hsb).trans c2
          have HPB := Lib.hid (HLB.out _ (List.getElem_mem hlt))
          generalize l[k] = p at *
          obtain ⟨op, si, sbs⟩ := p
          obtain ⟨ua, un, uc, rfl⟩ := hsu.val
          have hoff : Off (.slice ua un uc) [g, b, y, gl, gk, gw] := fun m hm o n c hn => hsu.neB (HGE.out m hm) o n c hn
          have hbA : Below wr.heap.size wr (wr.alloc (.cells #[.int .i64 op, .int .i64 si, .slice ua un uc] 36)) := (Below.refl _ _).alloc (Nat.le_refl _) _
          have kB := Blk.new wr 36 #[.int .i64 op, .int .i64 si, .slice ua un uc]
          obtain ⟨z0, z1, z2⟩ := cell3 kB
          have hPA : Pair (wr.alloc (.cells #[.int .i64 op, .int .i64 si, .slice ua un uc] 36)) g b y gl gk gw d := ⟨hP.dev.below hbA, hP.ref.below hbA⟩
          have hbwA := hbw.trans (hbA.mono hbw.size)
          have HUA := Lib.hid (hsu.below hbwA (Nat.le_refl _))
          have HPA := Lib.hid hPA
          have HBA := Lib.hid hbwA
          have HOF := Lib.hid hoff
          clear hP hbw hsu hbA kB hPA hbwA hoff
          by_cases hk40 : k < 40
          · have hkI2 : (k : Int) < 40 := by omega
            have HDO := Lib.hid (do_any _ g b y gl gk gw d op si (.slice ua un uc) sbs HPA.out HPB.out HUA.out HOF.out)
            go_wp2_with fail
            refine HDO.out.mono ?_
            rintro e w3 ⟨rfl, hP3, hO3⟩
            have hb3 := Only.belowOf HBA.out hO3 HBA.out.size HGE.out
            have HSA := Lib.hid (same_any w3 g b y gl gk gw _ hP3)
            have HP3 := Lib.hid hP3
            have HB3 := Lib.hid hb3
            clear hP3 hO3 hb3 HDO
            go_wp2_with fail
            refine HSA.out.mono ?_
            rintro e w4 ⟨rfl, hb4⟩
            have HF := Lib.hid (show Pair w4 g b y gl gk gw (d.step (op, si, sbs)) from ⟨HP3.out.dev.below hb4, HP3.out.ref.below hb4⟩)
            have HB4 := Lib.hid (below_trans2 HB3.out hb4)
            clear hb4 HSA HP3 HB3
            go_wp2
            go_roundw
            case rel => exact ⟨k + 1, _, hlt, by go_num, HF.out, HB4.out⟩
            case measure => simp [intOf]; omega
          · have hkI2 : ¬ (k : Int) < 40 := by omega
            go_wp2
            go_roundw
            case rel => exact ⟨k + 1, d, hlt, by go_num, HPA.out, HBA.out⟩
            case measure => simp [intOf]; omega
        · obtain rfl : k = l.length := by omega
          have hkI : ¬ (l.length : Int) < (l.length : Int) := by omega
          have HAW := Lib.hid (deviceAwake_any wr)
          have HB := Lib.hid hbw
          clear hP hbw
          go_wp2_with fail
          refine HAW.out.mono ?_
          rintro e w5 ⟨rfl, hb5⟩
          have hb6 := below_trans2 HB.out hb5
          clear hb5
          go_wp2
          go_ret
          exact ⟨rfl, hb6⟩
    · have HNW := Lib.hid (dnew_no sectors w hin)
      have HRW := Lib.hid (rnew_no sectors w hin)
      have HAW := Lib.hid (deviceAwake_any w)
      have hx : ¬ (40 : Int) < sectors ∨ (40 : Int) < sectors ∧ ¬ sectors ≤ (16384 : Int) := by omega
      clear hbig hin hs0 hs1
      rcases hx with hx | ⟨hx, hx2⟩
      · go_enter Try.func6, Try.ntmps6
        go_wp2_with fail
        refine HNW.out.mono ?_
        rintro e w1 ⟨rfl, rfl⟩
        go_wp2_with fail
        refine HRW.out.mono ?_
        rintro e w1 ⟨rfl, rfl⟩
        go_wp2_with fail
        refine HAW.out.mono ?_
        rintro e w1 ⟨rfl, hb⟩
        go_wp2
        go_ret
        exact ⟨rfl, hb⟩
      · go_enter Try.func6, Try.ntmps6
        go_wp2_with fail
        refine HNW.out.mono ?_
        rintro e w1 ⟨rfl, rfl⟩
        go_wp2_with fail
        refine HRW.out.mono ?_
        rintro e w1 ⟨rfl, rfl⟩
        go_wp2_with fail
        refine HAW.out.mono ?_
        rintro e w1 ⟨rfl, hb⟩
        go_wp2
        go_ret
        exact ⟨rfl, hb⟩

end Go.Proofs.Yteaimjfpmacgeaa
