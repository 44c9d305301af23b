/- Trees of signing keys: New, the reference's, where the arguments may be. An append of a slice that is read to an own row of bytes, inside a region whose order is drawn; the reference's Public. Sign of the chains' layer: its list is the call's own. Trees of signing keys: Sign, the program's. Trees of signing keys: Sign, the program's, where the number or the digest may not be. Trees of signing keys: Sign, the reference's, where the number or the digest may not be. -/
import Derived.Test.YtililoojjfcfgaaDoorMtsM2
import Derived.Deep.RegionHeld3
import Derived.Deep.Cut
import Derived.Deep.RegionLaw
import Derived.Test.YtililoojjfcfgaaDoorSig1
namespace Go.Proofs.YtililoojjfcfgaaDoor
open Go.RowKit
set_option linter.unusedVariables false

abbrev rkCells (n h : Nat) (sv lv : Value) : Array Value := #[.int .i64 n, .int .i64 h, sv, lv]
theorem rk_noB {n h : Nat} {sv lv : Value} (h1 : isSlV sv) (h2 : isSlV lv) : ∀ (j : Nat) (x : Int), (rkCells n h sv lv)[j]? ≠ some (.int .u8 x) := by
  obtain ⟨_, _, _, rfl⟩ := h1
  obtain ⟨_, _, _, rfl⟩ := h2
  intro j x e
  match j, e with
  | 0, e => simp at e
  | 1, e => simp at e
  | 2, e => simp at e
  | 3, e => simp at e
  | j + 4, e => simp at e
/-- Some keys of the reference. -/
def RK (w : World) (g n h : Nat) (seed : List Int) : Prop := ∃ sv lv, Sl w sv (seed.map (Value.int .u8)) ∧ Blk w g 116 (rkCells n h sv lv) ∧ OLv w 0 lv (lvsI n seed h (h + 1))
theorem RK.below {w w' : World} {g n h : Nat} {seed : List Int} (k : RK w g n h seed) (hb : Below w.heap.size w w') : RK w' g n h seed := by
  obtain ⟨sv, lv, h1, h2, h3⟩ := k
  exact ⟨sv, lv, h1.below hb (Nat.le_refl _), h2.belowS hb, h3.below hb⟩

set_option maxRecDepth 100000 in
set_option maxHeartbeats 4000000 in
theorem refNew_ok (n h : Nat) (seed : List Int) (v : Value) (w : World) (hn0 : 1 ≤ n) (hn : n ≤ 32) (hh : h ≤ 8) (hl : seed.length ≤ 64) (hB : IsB seed) (hs : Sl w v (seed.map (Value.int .u8))) :
    Calls Tryd.prog 29 #[.int .i64 n, v, .int .i64 h] w fun e w' => ∃ g, e = .returned (.tuple #[.pointer (some ⟨g, 0, none⟩), .int .i64 0]) ∧ w.heap.size ≤ g ∧ RK w' g n h seed ∧ Below w.heap.size w w' := by
  have HC := Lib.hid (refCan_any n v seed 0 w hs)
  rw [show canB (n : Int) seed.length 0 = true from by unfold canB; exact decide_eq_true (by omega)] at HC
  obtain ⟨va, vc, rfl, hvc, hvm⟩ := hs.shape
  rw [List.length_map] at *
  obtain ⟨H, hH⟩ : ∃ H : Nat, H = 2 ^ h := ⟨_, rfl⟩
  have hH1 : 1 ≤ H ∧ H ≤ 256 := by rw [hH]; exact ⟨Nat.one_le_two_pow, Nat.pow_le_pow_right (by omega) hh⟩
  have hW : wrap64 ((2 : Int) ^ h) = (H : Int) := by
    rw [show ((2 : Int) ^ h) = ((2 ^ h : Nat) : Int) by simp, ← hH]; unfold wrap64; omega
  have HH := Lib.hid hH
  clear hH
  have h8 : ¬ (8 : Int) < (h : Int) := by omega
  have h0 : ¬ (h : Int) < 0 := by omega
  have HS := Lib.hid (fun w' (q : Below w.heap.size w w') => hs.below q (Nat.le_refl _))
  have hbE : Below w.heap.size w (w.alloc (.cells #[] 5)) := (Below.refl _ _).alloc (Nat.le_refl _) _
  have hown0 : (w.alloc (.cells #[] 5)).ownsRow w.heap.size 5 1 (.slice (some ⟨w.heap.size, 0, none⟩) 0 0) 0 [] :=
    World.ownsRow_lit (base := w.heap.size) (e := 5) (size := 1) w #[] 0 (Nat.le_refl _) (by simp [maxLen]) (by simp)
  have hsE := hs.below hbE (Nat.le_refl _)
  obtain ⟨i0, hi, hz0', hz1', hz2'⟩ := info_parts info8c
  clear hs
  go_enter Tryd.func29, Tryd.ntmps29
  go_wp2_with fail
  refine HC.out.mono ?_
  rintro e w1 ⟨rfl, rfl⟩
  go_wp2_with (at_builtin; refine wpList_append_sl rfl _ _ 22 rfl w.heap.size 5 i0 (.int .u8 0) 1 Tryd.underlying22 hi hz0' hz1' hz2' rfl _ 0 [] rfl hown0 (.slice va seed.length vc) (seed.map (Value.int .u8)) rfl hsE (one8 _) (by rw [List.length_map]; unfold maxLen; omega) (by rw [List.length_map]; omega) (by simp) ?_)
  intro xv w2 hown2 hg2
  have hb2 := below_grown hbE hown0 (Nat.le_refl _) (by simp) hg2
  have hxv : Sl w2 xv (seed.map (Value.int .u8)) := by simpa using Sl.of_owns hown2
  obtain ⟨xa, xn, xc, rfl⟩ := hxv.val
  clear hown2 hg2 hbE hown0 hsE
  have hbR : Below w2.heap.size w2 (w2.alloc (.cells (rkCells n h (.slice xa xn xc) (.slice none 0 0)) 116)) := (Below.refl _ _).alloc (Nat.le_refl _) _
  have kN := Blk.new w2 116 (rkCells n h (.slice xa xn xc) (.slice none 0 0))
  have hx3 := hxv.below hbR (Nat.le_refl _)
  have hb3 := below_trans2 hb2 hbR
  have HGW := Lib.hid (show w.heap.size ≤ w2.heap.size from hb2.size)
  clear hxv hbR hb2
  have HNB := Lib.hid (fun (lv : Value) (q : isSlV lv) => rk_noB (n := n) (h := h) (sv := .slice xa xn xc) (lv := lv) ⟨_, _, _, rfl⟩ q)
  go_wp2
  rw [hW]
  generalize (w2.alloc (.cells (rkCells n h (.slice xa xn xc) (.slice none 0 0)) 116)) = w3 at *
  generalize w2.heap.size = g at *
  have HKN := Lib.hid kN
  have HX3 := Lib.hid hx3
  have HB3 := Lib.hid hb3
  clear kN hx3 hb3
  go_loopw [9, 37] (fun l i wr => ∃ (k : Nat) (lv : Value), lv = l ∧ k ≤ H ∧ i = .int .i64 k ∧ OSls wr w3.heap.size lv (botI n seed k) ∧ Below w3.heap.size w3 wr) (fun _ i _ => H - (intOf i).toNat)
  case atStart => exact ⟨0, _, rfl, by omega, rfl, OSls.nil _ _, Below.refl _ _⟩
  case round =>
    obtain ⟨k, lv, rfl, hkb, rfl, hO, hbr⟩ := hrel
    obtain ⟨la, lc, rfl⟩ := hO.val
    rw [botI_len] at hO ⊢
    have hbw := HB3.out.trans (hbr.mono HB3.out.size)
    by_cases hlt : k < H
    · have hkI : (k : Int) < (H : Int) := by omega
      have HLN := Lib.hid (show (botI (n : Int) seed k).length + 1 ≤ 5000000000000 by rw [botI_len]; omega)
      have HSN := Lib.hid (botI_succ (n : Int) seed k)
      go_wp2_with fail
      refine (refKey_any (n : Int) (.slice va seed.length vc) seed k wr (by omega) (by omega) hB (HS.out _ hbw)).mono ?_
      rintro e w5 ⟨x5, rfl, hx5, hb5⟩
      have hO := hO.below hb5
      have hbr := hbr.trans (hb5.mono hbr.size)
      obtain ⟨a2, l2, c2, rfl⟩ := hx5.val
      have hbA : Below w5.heap.size w5 (w5.alloc (.cells #[.slice a2 l2 c2] 22)) := (Below.refl _ _).alloc (Nat.le_refl _) _
      have hO := hO.below hbA
      have hx5 := hx5.below hbA (Nat.le_refl _)
      have hbr := hbr.trans (hbA.mono hbr.size)
      have hc2 := (Blk.new w5 22 #[.slice a2 l2 c2]).cell 0
      clear hb5 hbA hbw
      go_wp2_with (at_builtin; refine wpList_append_text rfl _ _ rfl w3.heap.size _ _ rfl hO w5.heap.size 1 rfl (.slice a2 l2 c2) hc2 _ hx5 HLN.out hbr.size ?_)
      intro l5 w6 hO5 hb6 hg6
      have hbr := hbr.trans hb6
      clear hg6 hb6 hO hx5 hc2
      go_wp2
      go_roundw
      case rel => exact ⟨k + 1, l5, rfl, by omega, by go_num, by rw [HSN.out]; exact hO5, hbr⟩
      case measure => simp [intOf]; omega
    · obtain rfl : k = H := by omega
      have hkI : ¬ (k : Int) < (k : Int) := by omega
      have kr := HKN.out.belowS hbr
      have hbA : Below wr.heap.size wr (wr.alloc (.cells #[.slice la k lc] 23)) := (Below.refl _ _).alloc (Nat.le_refl _) _
      have kA := kr.belowS hbA
      have hOA := OSls.base (hO.below hbA) (Nat.zero_le _)
      have hxA := (HX3.out.below hbr (Nat.le_refl _)).below hbA (Nat.le_refl _)
      have hbwA := hbw.trans (hbA.mono hbw.size)
      have c3 : wr.cell? ⟨g, 3, none⟩ = some (.slice none 0 0) := kr.cell 3
      have cNew := (Blk.new wr 23 #[.slice la k lc]).cell 0
      go_wp2_with (at_builtin; refine wpList_append_level rfl _ _ rfl w.heap.size _ _ rfl (OLv.nil _ _) wr.heap.size 1 rfl (.slice la k lc) cNew _ hOA (by simp) hbwA.size ?_)
      intro v5 w5 hV5 hb5 hg5
      have hV5 : OLv w5 w.heap.size v5 (lvsI n seed h (0 + 1)) := by
        rw [lvsI_succ, show lvI (n : Int) seed h 0 = botI n seed k by rw [HH.out]; rfl]; exact hV5
      obtain ⟨va5, vc5, rfl⟩ := hV5.val
      rw [lvsI_len, show (0 + 1 : Nat) = 1 from rfl] at hV5 ⊢
      have e5 : w5.heap[g]? = (wr.alloc (.cells #[.slice la k lc] 23)).heap[g]? := hg5.block g kA.lt (by simp [Value.ownBlock])
      have k5 : Blk w5 g 116 (rkCells n h (.slice xa xn xc) (.slice none 0 0)) := e5.trans kA
      have hbl : Below (wr.alloc (.cells #[.slice la k lc] 23)).heap.size (wr.alloc (.cells #[.slice la k lc] 23)) w5 := ⟨hb5.os, hb5.tape, hb5.output, hg5.size, fun i hi => hg5.block i hi (by simp [Value.ownBlock])⟩
      have hO5 := OSls.below hOA hbl
      have hx5 := hxA.below hbl (Nat.le_refl _)
      have hbw5 := hbwA.trans (hbl.mono hbwA.size)
      have nb5 := HNB.out (.slice none 0 0) ⟨_, _, _, rfl⟩
      have q3 : w5.cell? ⟨g, 3, none⟩ = some (.slice none 0 0) := k5.cell 3
      have f3 := k5.frozen 3
      have gS := set_onlyG w5 g 3 (.slice va5 1 vc5)
      have hVS := hV5.keepGk k5 (by decide) (by decide) nb5 gS
      have hOS := OSls.keepM hO5 k5 (by decide) nb5 gS
      have hxS := hx5.keepG k5 nb5 gS
      have kS := k5.set_ 3 (.slice va5 1 vc5)
      have hbS := below_of_only hbw5 gS HGW.out hbw5.size
      rw [show botI (n : Int) seed k = lvI n seed h 0 by rw [HH.out]; rfl] at hOS
      clear hO hOA hO5 hV5 hxA hx5 hbw hbwA hbw5 hbl hbr kr kA k5 e5 gS nb5 hb5 hg5 hbA cNew c3
      go_wp2
      generalize (w5.setCell ⟨g, 3, none⟩ (.slice va5 1 vc5)) = wx at *
      clear q3 f3
      go_loopw [9, 63] (fun lx ix wy => ∃ (j : Nat) (lv vv : Value), lv = lx ∧ j ≤ h ∧ ix = .int .i64 j ∧ OSls wy 0 lv (lvI n seed h j) ∧ Blk wy g 116 (rkCells n h (.slice xa xn xc) vv) ∧ OLv wy w.heap.size vv (lvsI n seed h (j + 1)) ∧ Sl wy (.slice xa xn xc) (seed.map (Value.int .u8)) ∧ Below w.heap.size w wy) (fun _ i _ => h - (intOf i).toNat)
      case atStart => exact ⟨0, _, _, rfl, by omega, rfl, hOS, kS, hVS, hxS, hbS⟩
      case round =>
        clear hOS kS hVS hxS hbS
        obtain ⟨j, lv, vv, rfl, hj, rfl, hO, kr, hV, hx, hbw⟩ := hrel
        generalize wr = wo at *
        obtain ⟨la, lc, rfl⟩ := hO.val
        by_cases hlt : j < h
        · obtain ⟨P, hP⟩ : ∃ P : Nat, P = 2 ^ (h - (j + 1)) := ⟨_, rfl⟩
          have hPb : 1 ≤ P ∧ P ≤ 256 := by rw [hP]; exact ⟨Nat.one_le_two_pow, Nat.le_trans (Nat.pow_le_pow_right (by omega) (show h - (j + 1) ≤ 8 by omega)) (by decide)⟩
          have HLE := Lib.hid (show (lvI (n : Int) seed h j).length = 2 * P by rw [lvI_len, two_half h j hlt, ← hP])
          have HUP := Lib.hid (show upI (n : Int) ((j + 1 : Nat) : Int) (lvI (n : Int) seed h j) P = lvI (n : Int) seed h (j + 1) by rw [lvI, hP])
          have HLB := Lib.hid (lvI_isB (n : Int) seed h j)
          have HLS := Lib.hid (lvI_short (n : Int) seed h j)
          rw [HLE.out] at hO ⊢
          have HLV := Lib.hid (show lvsI (n : Int) seed h (j + 1 + 1) = lvsI (n : Int) seed h (j + 1) ++ [lvI (n : Int) seed h (j + 1)] from lvsI_succ _ _ _ _)
          generalize hL1 : lvI (n : Int) seed h (j + 1) = L1 at *
          have HL1 := Lib.hid hL1
          clear hL1
          generalize lvI (n : Int) seed h j = L at *
          clear hP
          have hjI : (j : Int) < (h : Int) := by omega
          have HO := Lib.hid hO
          have HKO := Lib.hid kr
          have HXO := Lib.hid hx
          have HBO := Lib.hid hbw
          clear hO kr hx hbw
          go_wp2
          go_loopw [14, 15] (fun ux ix wy => ∃ (p : Nat) (uv : Value), uv = ux ∧ p ≤ P ∧ ix = .int .i64 (2 * (p : Int)) ∧ OSls wy wo.heap.size uv (upI (n : Int) ((j + 1 : Nat) : Int) L p) ∧ Below wo.heap.size wo wy) (fun _ i _ => 2 * P - (intOf i).toNat)
          case atStart => exact ⟨0, _, rfl, by omega, rfl, OSls.nil _ _, Below.refl _ _⟩
          case round =>
            obtain ⟨p, uv, rfl, hp, rfl, hU, hbr⟩ := hrel
            obtain ⟨ua, uc, rfl⟩ := hU.val
            rw [upI_len] at hU ⊢
            have kr := HKO.out.belowS hbr
            by_cases hlp : p < P
            · have hO := OSls.below HO.out hbr
              obtain ⟨q, hq⟩ : ∃ q : Nat, q = 2 * p := ⟨_, rfl⟩
              obtain ⟨r, hr⟩ : ∃ r : Nat, r = 2 * p + 1 := ⟨_, rfl⟩
              rw [show (2 * (p : Int)) = (q : Int) by omega]
              have hpI : (q : Int) < 2 * (P : Int) := by omega
              obtain ⟨b, off, u1, rfl, hbl, cu1, su1⟩ := OSls.get hO (k := q) (by rw [HLE.out]; omega)
              obtain ⟨b', off', u2, he, _, cu2, su2⟩ := OSls.get hO (k := r) (by rw [HLE.out]; omega)
              cases he
              have e1 : (q : Int).tdiv 2 = (p : Int) := by rw [Int.tdiv_eq_ediv_of_nonneg (by omega)]; omega
              have e8 : (q : Int) / 2 = (p : Int) := by omega
              have e9 : IntKind.i64.wrap (p : Int) = (p : Int) := by rw [IntKind.wrap_i64]; omega
              have e2 : IntKind.i64.wrap ((q : Int) + 1) = (r : Int) := by rw [IntKind.wrap_i64]; omega
              have e7 : IntKind.i64.wrap ((j : Int) + 1) = (j : Int) + 1 := by rw [IntKind.wrap_i64]; omega
              have e3 : (r : Int) < 2 * (P : Int) := by omega
              have e5 : q < 2 * P := by omega
              have e6 : r < 2 * P := by omega
              have HPQ := Lib.hid (show (q : Int) + 2 = 2 * ((p + 1 : Nat) : Int) by omega)
              have HQ := Lib.hid hq
              have HST := Lib.hid (show upI (n : Int) ((j + 1 : Nat) : Int) L (p + 1) = upI (n : Int) ((j + 1 : Nat) : Int) L p ++ [pairT (n : Int) ((j : Int) + 1) p (L.getD q []) (L.getD r [])] by rw [upI_succ, hq, hr]; rfl)
              have HB1 := Lib.hid (HLB.out _ (getD_mem (l := L) (k := q) (by rw [HLE.out]; omega)))
              have HB2 := Lib.hid (HLB.out _ (getD_mem (l := L) (k := r) (by rw [HLE.out]; omega)))
              have HS1 := Lib.hid (HLS.out _ (getD_mem (l := L) (k := q) (by rw [HLE.out]; omega)))
              have HS2 := Lib.hid (HLS.out _ (getD_mem (l := L) (k := r) (by rw [HLE.out]; omega)))
              have HLN := Lib.hid (show (upI (n : Int) ((j + 1 : Nat) : Int) L p).length + 1 ≤ 5000000000000 by rw [upI_len]; omega)
              generalize L.getD q [] = X1 at *
              generalize L.getD r [] = X2 at *
              generalize upI (n : Int) ((j + 1 : Nat) : Int) L p = UP at *
              obtain ⟨x1, y1, z1, rfl⟩ := su1.val
              obtain ⟨x2, y2, z2, rfl⟩ := su2.val
              have HX := Lib.hid (fun w' (h' : Below wr.heap.size wr w') => refMpair_any (n : Int) ((j : Int) + 1) p _ _ X1 X2 w' (by omega) (by omega) (by omega) (by omega) HB1.out HB2.out (by have := HS1.out; omega) (by have := HS2.out; omega) (su1.below h' (Nat.le_refl _)) (su2.below h' (Nat.le_refl _)))
              have HUK := Lib.hid (fun w' (h' : Below wr.heap.size wr w') => hU.below h')
              have hsz := hbr.size
              have HBR := Lib.hid hbr
              clear hq hr su1 su2 hU hO kr hbr
              go_wp2
              go_region_law (first
                | (refine step_append_textM rfl (.tmp 72) (.tmp 88) rfl wo.heap.size _ UP rfl hU3 w2.heap.size 1 rfl (.slice xa' xn' xc') hc2 _ hx2 HLN.out (Nat.le_trans hsz (Nat.le_trans hsz2 hbA.size)) ?_; intro l5 w5 hO5 hb5 hg5)
                | (go_simp; go_at_call 72; refine (HX.out _ (by first | exact Below.refl _ _ | exact (Below.refl _ _).drew)).mono ?_; rintro e w2 ⟨x9, rfl, hx1, hb2⟩; obtain ⟨xa', xn', xc', rfl⟩ := hx1.val; have hb2 : Below wr.heap.size wr w2 := ⟨hb2.os, hb2.tape, hb2.output, hb2.size, hb2.block⟩; have hsz2 : wr.heap.size ≤ w2.heap.size := hb2.size; have hU2 := HUK.out _ hb2; have hbA : Below w2.heap.size w2 (w2.alloc (.cells #[.slice xa' xn' xc'] 22)) := (Below.refl _ _).alloc (Nat.le_refl _) _; have hU3 := hU2.below hbA; have hx2 := hx1.below hbA (Nat.le_refl _); have hc2 := (Blk.new w2 22 #[.slice xa' xn' xc']).cell 0))
              all_goals
                have hbr5 := HBR.out.trans ((hb2.mono HBR.out.size).trans ((hbA.mono (Nat.le_trans HBR.out.size hb2.size)).trans hb5))
                rw [← HST.out] at hO5
                clear hb5 hg5 hb2 hbA hU2 hU3 hx1 hx2 hc2 HX HUK
                go_wp2
                exact ⟨⟨p + 1, l5, rfl, by omega, by rw [← HPQ.out], hO5, hbr5⟩, by have := HQ.out; simp [intOf]; omega⟩
            · obtain rfl : p = P := by omega
              have hpI : ¬ 2 * (p : Int) < 2 * (p : Int) := by omega
              have HWV := Lib.hid (hV.below hbr)
              obtain ⟨vb, vd, rfl⟩ := hV.val
              rw [lvsI_len] at *
              have hU0 := OSls.base hU (Nat.zero_le _)
              rw [HUP.out] at hU0
              have hbA : Below wr.heap.size wr (wr.alloc (.cells #[.slice ua p uc] 23)) := (Below.refl _ _).alloc (Nat.le_refl _) _
              have kA := kr.belowS hbA
              have c6 : wr.cell? ⟨g, 3, none⟩ = some (.slice vb (j + 1) vd) := kr.cell 3
              have HVA := Lib.hid (HWV.out.below hbA)
              have hUA := hU0.below hbA
              have cNew := (Blk.new wr 23 #[.slice ua p uc]).cell 0
              clear hU0 hU
              have hbwA := (HBO.out.trans (hbr.mono HBO.out.size)).trans (hbA.mono (Nat.le_trans HBO.out.size hbr.size))
              have hxA := (HXO.out.below hbr (Nat.le_refl _)).below hbA (Nat.le_refl _)
              go_wp2_with (at_builtin; refine wpList_append_level rfl _ _ rfl w.heap.size _ _ rfl HVA.out wr.heap.size 1 rfl (.slice ua p uc) cNew _ hUA (by rw [lvsI_len]; omega) hbwA.size ?_)
              intro v5 w5 hV5 hb5 hg5
              have hb5w := hbwA.trans hb5
              obtain ⟨vs, hv1, hv2⟩ := HVA.out
              have k5 := kA.grown hg5 (Ne.symm (own_blk_ne hv1.1 kA (by decide)))
              have hU5 := OSls.keepR hUA hv1 (by decide) hg5
              have hx5 := hxA.keepK hv1 hg5
              rw [← HLV.out] at hV5
              obtain ⟨va5, vc5, rfl⟩ := hV5.val
              rw [lvsI_len] at hV5 ⊢
              have q6 : w5.cell? ⟨g, 3, none⟩ = some (.slice vb (j + 1) vd) := k5.cell 3
              have f65 := k5.frozen 3
              have nb5 := HNB.out (.slice vb (j + 1) vd) ⟨_, _, _, rfl⟩
              have gS := set_onlyG w5 g 3 (.slice va5 (j + 1 + 1) vc5)
              have hVS := hV5.keepGk k5 (by decide) (by decide) nb5 gS
              have hUS := OSls.keepM hU5 k5 (by decide) nb5 gS
              have hxS := hx5.keepG k5 nb5 gS
              have kS := k5.set_ 3 (.slice va5 (j + 1 + 1) vc5)
              have hBS := below_of_only hb5w gS HGW.out hb5w.size
              clear hv1 hv2 hg5 hb5 hV5 hU5 hUA hb5w hbwA gS nb5 kA hbA k5 cNew hx5 hxA
              go_wp2
              exact ⟨⟨j + 1, _, _, rfl, by omega, by go_num, by rw [HL1.out]; exact hUS, kS, hVS, hxS, hBS⟩, by simp [intOf]; omega⟩
        · obtain rfl : j = h := by omega
          have hjI : ¬ (j : Int) < (j : Int) := by omega
          have HE := Lib.hid (show w.heap.size ≤ g ∧ RK wo g n j seed ∧ Below w.heap.size w wo from ⟨HGW.out, ⟨_, vv, hx, kr, hV.base (Nat.zero_le _)⟩, hbw⟩)
          clear hx kr hV hbw hO
          go_wp2
          go_ret2
          exact ⟨g, rfl, HE.out⟩

end Go.Proofs.YtililoojjfcfgaaDoor

namespace Go.Proofs.YtililoojjfcfgaaDoor
open Go.RowKit
set_option linter.unusedVariables false

theorem run_append_slB {P : Program} (w : World) (base : Nat) (t ty e : TypeId) (i : TypeInfo) (z : Value) (bytes : Nat) (ht : P.underlying t = some (.slice e)) (hi : P.info? e = some i) (hz : i.zero = some z)
    (hsize : i.size = 1) (hby : i.bytes = bytes) (hzs : z.cells.size = 1)
    (v : Value) (n : Nat) (xs : List Value) (hown : w.ownsRow base e 1 v n xs)
    (u : Value) (ys : List Value) (hsl : Sl w u ys) (h1 : ∀ u ∈ ys, u.oneCell' = true)
    (h63 : n + ys.length ≤ maxLen) (hbytes : (n + ys.length) * bytes ≤ 140737488355328) (hbase : base ≤ w.heap.size) :
    ∃ v' w', (Builtin.append_ #[t, t] ty #[v, u]).run P w = .ok v' w' ∧ w'.ownsRow base e 1 v' (n + ys.length) (xs ++ ys) ∧ w.grownBy w' v.ownBlock := by
  obtain ⟨ad, cap, rfl, hlc, hcm, hc⟩ := hsl
  cases ad with
  | some ad =>
    obtain ⟨v', w', h2, h3, h4, _⟩ := run_append_own (P := P) w base t ty e i z 1 bytes ht hi hz hsize hby hzs (by decide) v n xs hown ad ys.length cap ys (by omega) (by
      intro j u hu
      have hj : 0 < ys.length := by
        rcases Nat.lt_or_ge j ys.length with hlt | hge
        · omega
        · rw [List.getElem?_eq_none hge] at hu; cases hu
      obtain ⟨b, off, hab, hlt, hcell⟩ := hc hj
      cases hab
      rw [add_plain0]
      exact hcell j u hu) h1 h63 hbytes hbase
    exact ⟨v', w', h2, h3, h4⟩
  | none =>
    have hl0 : ys.length = 0 := by
      rcases Nat.eq_zero_or_pos ys.length with h0 | h0
      · exact h0
      · obtain ⟨b, off, hab, _⟩ := hc h0; cases hab
    obtain rfl : ys = [] := List.length_eq_zero_iff.1 hl0
    have hrun : (Builtin.append_ #[t, t] ty #[v, .slice none 0 cap]).run P w = .ok v w := by
      rcases hown.2 with ⟨rfl, rfl⟩ | ⟨g, cap', cur, rfl, _, _, hnc, _⟩
      · simp [Builtin.append_, run_underlying ht, sizeOf, typeInfo, hi, Builtin.lenOf, Builtin.firstCells]
      · simp [Builtin.append_, run_underlying ht, sizeOf, typeInfo, hi, Builtin.lenOf, Builtin.firstCells, hnc, storeCells]
    exact ⟨v, w, hrun, by simpa using hown, ⟨rfl, rfl, rfl, Nat.le_refl _, fun _ _ _ => rfl⟩⟩

theorem step_append_bytes {w : World} {ops : Array Oper} {o : Oper} {a : Act} {K : Act → World → Prop} {Q : Exit → Act → World → Prop} {E : Prop} (hgd : o.guard = none) (s x : Operand)
    (ho : o.op = .call { callee := .builtin .append, args := #[s, x], argTypes := #[22, 22] })
    (base : Nat) (v : Value) (n : Nat) (xs : List Value) (hs : a.eval s = v) (hown : w.ownsRow base 5 1 v n xs)
    (u : Value) (bs : List Int) (hx : a.eval x = u) (hu : Sl w u (bs.map (Value.int .u8)))
    (h63 : n + bs.length ≤ 140737488355328) (hbase : base ≤ w.heap.size)
    (h : ∀ v' w', w'.ownsRow base 5 1 v' (n + bs.length) (xs ++ bs.map (Value.int .u8)) → w.grownBy w' v.ownBlock → K (a.put o.dst v') w') : if Region.wanted o (yielded ops a.tmps) = true then Oper.wp Tryd.prog o a w K Q else E := by
  have hw : Region.wanted o (yielded ops a.tmps) = true := by simp [Region.wanted, hgd]
  rw [if_pos hw]
  obtain ⟨i0, hi, hz0, hz1, hz2⟩ := info_parts info8c
  obtain ⟨v', w', hrun, hown', hg⟩ := run_append_slB (P := Tryd.prog) w base 22 o.type 5 i0 (.int .u8 0) 1 Tryd.underlying22 hi hz0 hz1 hz2 rfl v n xs hown u (bs.map (Value.int .u8)) hu (one8 _) (by rw [List.length_map]; unfold maxLen; omega) (by rw [List.length_map]; omega) hbase
  rw [List.length_map] at hown'
  unfold Oper.wp execOp
  simp only [ho, resolve, invoke, builtin, Sem.run_bind, Sem.run_pure, Result.andThen_ok, List.map_toArray, List.map_cons, List.map_nil, hs, hx, hrun]
  exact h v' w' hown' hg

set_option maxRecDepth 100000 in
set_option maxHeartbeats 2000000 in
theorem refPublic_any (n h g : Nat) (seed : List Int) (w : World) (hk : RK w g n h seed) :
    Calls Tryd.prog 48 #[.pointer (some ⟨g, 0, none⟩)] w fun e w' => ∃ x, e = .returned x ∧ Sl w' x (((lvI n seed h h).getD 0 []).map (Value.int .u8)) ∧ Below w.heap.size w w' := by
  obtain ⟨sv, lv, h1, h2, h3⟩ := hk
  obtain ⟨va, vc, rfl⟩ := h3.val
  rw [lvsI_len] at *
  obtain ⟨b, off, u, rfl, hb, hcu, hu⟩ := h3.at (k := h) (lvsI_get n seed h (h + 1) h (by omega))
  obtain ⟨ua, uc, rfl⟩ := hu.val
  have hln : (lvI (n : Int) seed h h).length = 1 := by rw [lvI_len]; simp
  have HSH := Lib.hid (lvI_short n seed h h)
  obtain ⟨b2, off2, u2, rfl, hb2, hcu2, hu2⟩ := OSls.get hu (k := 0) (by rw [hln]; omega)
  have hxl := HSH.out _ (getD_mem (l := lvI n seed h h) (k := 0) (by rw [hln]; omega))
  rw [hln] at *
  generalize hX : (lvI (n : Int) seed h h).getD 0 [] = X at *
  have HX := Lib.hid hX
  clear hX hln
  obtain ⟨xa, xn, xc, rfl⟩ := hu2.val
  have hbE : Below w.heap.size w (w.alloc (.cells #[] 5)) := (Below.refl _ _).alloc (Nat.le_refl _) _
  have hown0 : (w.alloc (.cells #[] 5)).ownsRow w.heap.size 5 1 (.slice (some ⟨w.heap.size, 0, none⟩) 0 0) 0 [] :=
    World.ownsRow_lit (base := w.heap.size) (e := 5) (size := 1) w #[] 0 (Nat.le_refl _) (by simp [maxLen]) (by simp)
  have hsE := hu2.below hbE (Nat.le_refl _)
  have c1 : w.cell? ⟨g, 1, none⟩ = some (.int .i64 h) := h2.cell 1
  have c3 : w.cell? ⟨g, 3, none⟩ = some (.slice (some ⟨b, off, none⟩) (h + 1) vc) := h2.cell 3
  have kE := h2.belowS hbE
  have d1 : (w.alloc (.cells #[] 5)).cell? ⟨g, 1, none⟩ = some (.int .i64 h) := kE.cell 1
  have d3 : (w.alloc (.cells #[] 5)).cell? ⟨g, 3, none⟩ = some (.slice (some ⟨b, off, none⟩) (h + 1) vc) := kE.cell 3
  have d4 := (hbE.cell (p := ⟨b, off + h, none⟩) hb).trans hcu
  have hcu2 : w.cell? ⟨b2, off2, none⟩ = some (.slice xa xn xc) := hcu2
  have d5 := (hbE.cell (p := ⟨b2, off2, none⟩) hb2).trans hcu2
  have hlI : (h : Int) < (h : Int) + 1 := by omega
  have hlN : h < h + 1 := by omega
  have HXL := Lib.hid (show X.length ≤ 1000 by omega)
  clear h1 h2 h3 hu hu2 kE hxl
  go_enter Tryd.func48, Tryd.ntmps48
  go_wp2
  go_region_law (refine step_append_bytes rfl (.tmp 3) (.tmp 15) rfl w.heap.size _ 0 [] rfl hown0 (.slice xa xn xc) X rfl hsE (by have := HXL.out; omega) (by simp) ?_; intro x5 w5 hown5 hg5)
  all_goals
    have hg6 : (w.alloc (.cells #[] 5)).drew.grownBy w5 (Value.slice (some ⟨w.heap.size, 0, none⟩) 0 0).ownBlock := hg5
    have hb5 := below_grown (w1 := (w.alloc (.cells #[] 5)).drew) hbE.drew (show (w.alloc (.cells #[] 5)).drew.ownsRow w.heap.size 5 1 (.slice (some ⟨w.heap.size, 0, none⟩) 0 0) 0 [] from hown0) (Nat.le_refl _) (by simp) hg6
    clear hg6
    have hx5 : Sl w5 x5 (X.map (Value.int .u8)) := by simpa using Sl.of_owns hown5
    clear hown5 hg5
    go_wp2
    go_ret
    exact ⟨x5, rfl, by first | exact hx5 | (rw [HX.out]; exact hx5), hb5⟩

end Go.Proofs.YtililoojjfcfgaaDoor

namespace Go.Proofs.YtililoojjfcfgaaDoor
open Go.RowKit
set_option linter.unusedVariables false

set_option maxRecDepth 100000 in
set_option maxHeartbeats 1000000 in
theorem sign_own (size : Int) (v : Value) (seed : List Int) (idx : Int) (vd : Value) (dg : List Int) (w : World) (hx0 : -9223372036854775808 ≤ idx) (hx1 : idx ≤ 9223372036854775807)
    (hB : IsB seed) (hs : Sl w v (seed.map (Value.int .u8))) (hBd : IsB dg) (hsd : Sl w vd (dg.map (Value.int .u8))) (ht : Tabs w) :
    Calls Tryd.prog 82 #[.int .i64 size, v, .int .i64 idx, vd] w fun e w' => ∃ x, e = .returned (.tuple #[x, .int .i64 (signE size seed.length idx dg.length)]) ∧ OSls w' 0 x (signL size seed idx dg) ∧ Below w.heap.size w w' := by
  have HC := Lib.hid (can_any size v seed idx w hs)
  obtain ⟨va, vn, vc, rfl⟩ := hs.val
  obtain ⟨da, dc, rfl, hdc, _⟩ := hsd.shape
  rw [List.length_map] at *
  have HE := Lib.hid (show signE size seed.length idx dg.length = if canB size seed.length idx = true ∧ (dg.length : Int) = size then 0 else 1 from rfl)
  have HL := Lib.hid (show signL size seed idx dg = if canB size seed.length idx = true ∧ (dg.length : Int) = size then sgU size seed idx (digitsOf dg) (4 * dg.length + 5) else [] from rfl)
  by_cases hcb : canB size seed.length idx = true
  · have hcI : 1 ≤ size ∧ size ≤ 32 := by unfold canB at hcb; have := of_decide_eq_true hcb; omega
    rw [hcb] at HC HE HL
    clear hcb
    by_cases hln : (dg.length : Int) = size
    · rw [if_pos ⟨rfl, hln⟩] at HE HL
      subst hln
      rw [HE.out, HL.out]
      have hl32 : dg.length ≤ 32 := by omega
      have HDG := Lib.hid (digits_short dg (.slice da dg.length dc) hBd hl32 w hsd)
      have HDL := Lib.hid (digits_len dg hl32)
      have HDM := Lib.hid (fun j => digits_mem (a := dg) hl32 j)
      generalize digitsOf dg = DD at *
      go_enter Tryd.func82, Tryd.ntmps82
      go_wp2_with fail
      refine HC.out.mono ?_
      rintro e w1 ⟨rfl, rfl⟩
      go_wp2_with fail
      refine HDG.out.mono ?_
      rintro e w1 ⟨v1, rfl, hd1, hb1⟩
      obtain ⟨xa, xc, rfl, _, _⟩ := hd1.shape
      rw [List.length_map, HDL.out]
      have hs := hs.below hb1 (Nat.le_refl _)
      have ht := ht.below hb1
      have hb1s := hb1.size
      clear HDG hsd HC
      go_wp2
      go_loopw [10, 27] (fun l i wr => ∃ (k : Nat) (lv : Value), lv = l ∧ k ≤ 4 * dg.length + 5 ∧ i = .int .i64 k ∧ OSls wr w1.heap.size lv (sgU dg.length seed idx DD k) ∧ Below w1.heap.size w1 wr) (fun _ i _ => 4 * dg.length + 5 - (intOf i).toNat)
      case atStart => exact ⟨0, _, rfl, by omega, rfl, OSls.nil _ _, Below.refl _ _⟩
      case round =>
        obtain ⟨k, l, rfl, hk, rfl, hO, hbr1⟩ := hrel
        by_cases hlt : k < 4 * dg.length + 5
        · obtain ⟨xb, xo, rfl, hxb, hxc⟩ := hd1.ints (k := k) (by rw [HDL.out]; exact hlt)
          have hxk : wr.cell? ⟨xb, xo + k, none⟩ = some (.int .i64 (DD.getD k 0)) := by rw [hbr1.cell (p := ⟨xb, xo + k, none⟩) hxb]; exact hxc k (by rw [HDL.out]; exact hlt)
          have hdm := HDM.out k
          have HSN := Lib.hid (sgU_succ (dg.length : Int) seed idx DD k)
          generalize DD.getD k 0 = D at *
          obtain ⟨d, rfl⟩ : ∃ d : Nat, D = d := ⟨D.toNat, by omega⟩
          rw [Int.toNat_natCast] at HSN
          have hs := hs.below hbr1 (Nat.le_refl _)
          have ht := ht.below hbr1
          have hkI : (k : Int) < 4 * (dg.length : Int) + 5 := by omega
          clear hxc
          go_wp2_with fail
          refine (secret_any dg.length (.slice va vn vc) seed idx k wr hx0 hx1 (by omega) (by omega) hB hs ht).mono ?_
          rintro e w2 ⟨x1, rfl, hx1, hb2⟩
          have ht := ht.below hb2
          have hO := hO.below hb2
          have hbr1 := hbr1.trans (hb2.mono hbr1.size)
          clear hb2
          go_wp2_with fail
          refine (chain0_any dg.length x1 _ idx k d w2 (by assumption) (by assumption) (by omega) (by omega) (by omega) (by have := secI_len dg.length seed idx k; omega) (secI_isB _ _ _ _) hx1 ht).mono ?_
          rintro e w3 ⟨x2, rfl, hx2, hb3⟩
          have hO := hO.below hb3
          have hbr1 := hbr1.trans (hb3.mono hbr1.size)
          obtain ⟨a2, l2, c2, rfl⟩ := hx2.val
          have hbA : Below w3.heap.size w3 (w3.alloc (.cells #[.slice a2 l2 c2] 22)) := (Below.refl _ _).alloc (Nat.le_refl _) _
          have HLN := Lib.hid (show (sgU (dg.length : Int) seed idx DD k).length + 1 ≤ 5000000000000 by rw [sgU_len]; omega)
          have hO := hO.below hbA
          have hx2 := hx2.below hbA (Nat.le_refl _)
          have hbr1 := hbr1.trans (hbA.mono hbr1.size)
          have hc2 := (Blk.new w3 22 #[.slice a2 l2 c2]).cell 0
          clear hb3 hxk
          go_wp2_with (at_builtin; refine wpList_append_text rfl _ _ rfl w1.heap.size _ _ rfl hO w3.heap.size 1 rfl (.slice a2 l2 c2) hc2 _ hx2 HLN.out hbr1.size ?_)
          intro l5 w5 hO5 hb5 hg5
          have hbr1 := hbr1.trans hb5
          clear hg5 hb5 hO hx2 hc2 hbA
          go_wp2
          go_roundw
          case rel => exact ⟨k + 1, l5, rfl, by omega, by go_num, by rw [HSN.out]; exact hO5, hbr1⟩
          case measure => simp [intOf]; omega
        · obtain rfl : k = 4 * dg.length + 5 := by omega
          have hkI : ¬ (4 * (dg.length : Int) + 5 : Int) < 4 * (dg.length : Int) + 5 := by omega
          go_wp2
          go_ret2
          exact ⟨_, rfl, OSls.base hO (Nat.zero_le _), hb1.trans (hbr1.mono hb1s)⟩
    · rw [if_neg (fun h => hln h.2)] at HE HL
      rw [HE.out, HL.out]
      go_enter Tryd.func82, Tryd.ntmps82
      go_wp2_with fail
      refine HC.out.mono ?_
      rintro e w1 ⟨rfl, rfl⟩
      go_wp2
      go_ret2
      exact ⟨_, rfl, OSls.nil _ _, Below.refl _ _⟩
  · rw [if_neg (fun h => hcb h.1)] at HE HL
    rw [Bool.not_eq_true] at hcb
    rw [hcb] at HC
    rw [HE.out, HL.out]
    clear hcb
    go_enter Tryd.func82, Tryd.ntmps82
    go_wp2_with fail
    refine HC.out.mono ?_
    rintro e w1 ⟨rfl, rfl⟩
    go_wp2
    go_ret2
    exact ⟨_, rfl, OSls.nil _ _, Below.refl _ _⟩

end Go.Proofs.YtililoojjfcfgaaDoor

namespace Go.Proofs.YtililoojjfcfgaaDoor
open Go.RowKit
set_option linter.unusedVariables false

theorem xor_one (p : Nat) (h : p < 256) : bits BinOp.xor IntKind.i64 (p : Int) 1 = ((if p % 2 = 1 then p - 1 else p + 1 : Nat) : Int) := by
  have hx : p ^^^ 1 = if p % 2 = 1 then p - 1 else p + 1 := by
    have : ∀ q : Fin 256, (q.1 ^^^ 1) = if q.1 % 2 = 1 then q.1 - 1 else q.1 + 1 := by decide +kernel
    exact this ⟨p, h⟩
  have h1 : (BitVec.ofInt 64 (p : Int)).toNat = p := by
    rw [BitVec.ofInt_natCast, BitVec.toNat_ofNat]; exact Nat.mod_eq_of_lt (by omega)
  have h2 : (BitVec.ofInt 64 1).toNat = 1 := by decide
  show IntKind.i64.wrap ((BitVec.ofInt 64 (p : Int) ^^^ BitVec.ofInt 64 1).toNat : Int) = _
  rw [BitVec.toNat_xor, h1, h2, hx, IntKind.wrap_i64]
  split <;> omega
/-- The one beside. -/
def twin (p : Nat) : Nat := if p % 2 = 1 then p - 1 else p + 1
def pathI (n : Int) (seed : List Int) (h ix : Nat) (k : Nat) : List (List Int) := (List.range k).map fun l => (lvI n seed h l).getD (twin (ix / 2 ^ l)) []
theorem pathI_succ (n : Int) (seed : List Int) (h ix k : Nat) : pathI n seed h ix (k + 1) = pathI n seed h ix k ++ [(lvI n seed h k).getD (twin (ix / 2 ^ k)) []] := by
  simp [pathI, List.range_succ]
theorem pathI_len (n : Int) (seed : List Int) (h ix k : Nat) : (pathI n seed h ix k).length = k := by simp [pathI]
theorem half_lt_pow {ix h k : Nat} (hi : ix < 2 ^ h) (hk : k ≤ h) : ix / 2 ^ k < 2 ^ (h - k) := by
  rw [Nat.div_lt_iff_lt_mul (Nat.two_pow_pos k), ← Nat.pow_add, Nat.sub_add_cancel hk]; exact hi
theorem twin_lt {ix h k : Nat} (hi : ix < 2 ^ h) (hk : k < h) : twin (ix / 2 ^ k) < 2 ^ (h - k) := by
  have h1 := half_lt_pow hi (Nat.le_of_lt hk)
  rw [two_half h k hk] at h1 ⊢
  generalize ix / 2 ^ k = q at *
  generalize 2 ^ (h - (k + 1)) = M at *
  unfold twin
  split <;> omega

theorem sig_noB {i : Int} {sv lv : Value} (h1 : isSlV sv) (h2 : isSlV lv) : ∀ (j : Nat) (x : Int), (#[.int .i64 i, sv, lv] : Array Value)[j]? ≠ some (.int .u8 x) := by
  obtain ⟨_, _, _, rfl⟩ := h1
  obtain ⟨_, _, _, rfl⟩ := h2
  intro j x e
  match j, e with
  | 0, e => simp at e
  | 1, e => simp at e
  | 2, e => simp at e
  | j + 3, e => simp at e
theorem MKB.keepS {w w' : World} {g n h : Nat} {seed : List Int} (k : MKB w g n h seed) {b : Nat} {cs : Array Value} (kb : Blk w b 61 cs) (hcs : ∀ (j : Nat) (x : Int), cs[j]? ≠ some (.int .u8 x)) (hg : w.grownBy w' (some b)) : MKB w' g n h seed := by
  obtain ⟨sv, lv, h1, h2, h3⟩ := k
  have hne : some g ≠ some b := fun e => Blk.ne_ h2 kb (by decide) (by simpa using e)
  exact ⟨sv, lv, h1.keepG kb hcs hg, h2.grown hg hne, h3.keepGk kb (by decide) (by decide) hcs hg⟩
theorem MK.keepS {w w' : World} {g n h : Nat} {seed : List Int} (k : MK w g n h seed) {b : Nat} {cs : Array Value} (kb : Blk w b 61 cs) (hcs : ∀ (j : Nat) (x : Int), cs[j]? ≠ some (.int .u8 x)) (hg : w.grownBy w' (some b)) : MK w' g n h seed := by
  rcases k with k | ⟨sv, h1, h2⟩
  · exact .inl (k.keepS kb hcs hg)
  · have hne : some g ≠ some b := fun e => Blk.ne_ h2 kb (by decide) (by simpa using e)
    exact .inr ⟨sv, h1.keepG kb hcs hg, h2.grown hg hne⟩
/-- What stands while a signature is made: ws is the world behind the first hash. -/
structure SgS (w ws wr : World) (g n h A B ix : Nat) (seed : List Int) (SLv : Value) (SL : List (List Int)) (k : Nat) (pv : Value) : Prop where
  mm : (k = 0 ∧ MK ws g n h seed) ∨ MKB ws g n h seed
  ht : Tabs ws
  hs : OSls ws 0 SLv SL
  kA : Blk ws A 61 #[.int .i64 0, .slice none 0 0, .slice none 0 0]
  kB : ∃ p0, isSlV p0 ∧ Blk ws B 61 #[.int .i64 ix, SLv, p0]
  gw : w.grownBy ws (some g)
  gr : ws.grownBy wr (some B)
  kR : Blk wr B 61 #[.int .i64 ix, SLv, pv]
  hO : OSls wr ws.heap.size pv (pathI n seed h ix k)
  h0 : k = 0 → pv = .slice none 0 0
  sl : isSlV SLv
  hA : A < B
  wA : w.heap.size ≤ A
section
variable {w ws wr : World} {g n h A B ix : Nat} {seed : List Int} {SLv : Value} {SL : List (List Int)} {k : Nat} {pv : Value}
theorem SgS.mkR (s : SgS w ws wr g n h A B ix seed SLv SL k pv) : MK wr g n h seed := by
  obtain ⟨p0, hp, kb⟩ := s.kB
  rcases s.mm with ⟨_, m⟩ | m
  · exact m.keepS kb (sig_noB s.sl hp) s.gr
  · exact .inl (m.keepS kb (sig_noB s.sl hp) s.gr)
theorem SgS.mkBR (s : SgS w ws wr g n h A B ix seed SLv SL k pv) (hk : k ≠ 0) : MKB wr g n h seed := by
  obtain ⟨p0, hp, kb⟩ := s.kB
  rcases s.mm with ⟨e, m⟩ | m
  · exact absurd e hk
  · exact m.keepS kb (sig_noB s.sl hp) s.gr
theorem SgS.htR (s : SgS w ws wr g n h A B ix seed SLv SL k pv) : Tabs wr := by
  obtain ⟨p0, hp, kb⟩ := s.kB
  exact s.ht.keepG kb (n := ix) rfl s.gr
theorem SgS.hsR (s : SgS w ws wr g n h A B ix seed SLv SL k pv) : OSls wr 0 SLv SL := by
  obtain ⟨p0, hp, kb⟩ := s.kB
  exact OSls.keepM s.hs kb (by decide) (sig_noB s.sl hp) s.gr
theorem SgS.kAR (s : SgS w ws wr g n h A B ix seed SLv SL k pv) : Blk wr A 61 #[.int .i64 0, .slice none 0 0, .slice none 0 0] :=
  s.kA.grown s.gr (by intro e; have := s.hA; simp at e; omega)
theorem SgS.gwR (s : SgS w ws wr g n h A B ix seed SLv SL k pv) : w.grownBy wr (some g) :=
  only_below0 s.gw ((Below.refl _ _).grown s.gr s.gw.size (fun k hk => by cases hk; exact Nat.le_trans s.wA (Nat.le_of_lt s.hA)))
/-- Behind memory that is new. -/
theorem SgS.below (s : SgS w ws wr g n h A B ix seed SLv SL k pv) {w2 : World} (hb : Below wr.heap.size wr w2) : SgS w ws w2 g n h A B ix seed SLv SL k pv :=
  { s with gr := only_below s.gr hb, kR := s.kR.belowS hb, hO := OSls.below s.hO hb }
/-- Behind the first hash. -/
theorem SgS.first (s : SgS w ws wr g n h A B ix seed SLv SL 0 pv) {w2 : World} (m : MKB w2 g n h seed) (hg : wr.grownBy w2 (some g)) : SgS w w2 w2 g n h A B ix seed SLv SL 0 pv := by
  obtain ⟨sv, d, lv, q1, q2, _, kg⟩ := s.mkR.blk
  have hnb := keys_noB (n := n) (h := h) (d := d) (m := 0) q1 q2
  have neA : some A ≠ some g := fun e => Blk.ne_ s.kAR kg (by decide) (by simpa using e)
  have neB : some B ≠ some g := fun e => Blk.ne_ s.kR kg (by decide) (by simpa using e)
  have kR := s.kR.grown hg neB
  have e := s.h0 rfl
  exact ⟨.inr m, s.htR.keepG kg (n := n) rfl hg, OSls.keepM s.hsR kg (by decide) hnb hg, s.kAR.grown hg neA, ⟨pv, by rw [e]; exact ⟨_, _, _, rfl⟩, kR⟩, s.gwR.trans hg, World.grownBy.refl _ _, kR, by rw [e]; exact OSls.nil _ _, s.h0, s.sl, s.hA, s.wA⟩
/-- Behind an append and a store. -/
theorem SgS.next (s : SgS w ws wr g n h A B ix seed SLv SL k pv) (m : MKB ws g n h seed) {w5 : World} {v5 : Value} (hO : OSls w5 ws.heap.size v5 (pathI n seed h ix k ++ [(lvI n seed h k).getD (twin (ix / 2 ^ k)) []])) (hb : Below ws.heap.size wr w5) (hg : wr.grownBy w5 pv.ownBlock) : SgS w ws (w5.setCell ⟨B, 2, none⟩ v5) g n h A B ix seed SLv SL (k + 1) v5 := by
  obtain ⟨p0, hp, kb⟩ := s.kB
  obtain ⟨vs, r1, _⟩ := s.hO
  have k5 : Blk w5 B 61 #[.int .i64 ix, SLv, pv] := s.kR.grown hg (Ne.symm (own_blk_ne r1.1 s.kR (by decide)))
  have hpv : isSlV pv := by obtain ⟨a, c, e⟩ := s.hO.val; exact ⟨a, _, c, e⟩
  exact ⟨.inr m, s.ht, s.hs, s.kA, ⟨p0, hp, kb⟩, s.gw, only_setCell (p := ⟨B, 2, none⟩) (only_below0 s.gr hb) (Or.inl rfl) _, k5.set_ 2 _, by
    rw [pathI_succ]; exact OSls.keepM hO k5 (by decide) (sig_noB s.sl hpv) (set_onlyG w5 B 2 v5), fun e => absurd e (by omega), s.sl, s.hA, s.wA⟩
end

set_option maxRecDepth 100000 in
set_option maxHeartbeats 2000000 in
theorem at_built (n h : Nat) (g l p : Nat) (seed : List Int) (w : World) (hn : n ≤ 32) (hh : h ≤ 8) (hk : MKB w g n h seed) (hl : l ≤ h) (hp : p < 2 ^ (h - l)) :
    Calls Tryd.prog 83 #[.pointer (some ⟨g, 0, none⟩), .int .i64 l, .int .i64 p] w fun e w' => ∃ x, e = .returned x ∧ Sl w' x (((lvI n seed h l).getD p []).map (Value.int .u8)) ∧ Below w.heap.size w w' := by
  have hmf : ∀ (fn : Fn) (first cap : Array Value) (w : World), (Instr.makeFunc fn first cap).run Tryd.prog w = .ok (.func fn first cap) w := fun _ _ _ _ => rfl
  have hnot : ∀ (x : Bool) (w : World), (Op.unary .not (.bool x)).run Tryd.prog w = .ok (.bool (!x)) w := fun _ _ => rfl
  obtain ⟨sv, lv, h1, h2, h3⟩ := hk
  have c3 : w.cell? ⟨g, 3, none⟩ = some (.int .u32 1) := h2.cell 3
  have HO : Calls Tryd.prog 124 #[.pointer (some ⟨g, 3, none⟩), .func (.func 125) #[.pointer (some ⟨g, 0, none⟩)] #[]] w fun e w' => e = .returned (.tuple #[]) ∧ w = w' := by
    have hl := run_call_load (P := Tryd.prog) Tryd.func161 (by kernel_rfl) (by kernel_rfl) (by kernel_rfl) .u32 (by kernel_rfl) c3
    clear h1 h2 h3
    go_enter Tryd.func124, Tryd.ntmps124
    go_wp2
    go_end0
    exact ⟨rfl, rfl⟩
  have HO := Lib.hid HO
  obtain ⟨va, vc, rfl⟩ := h3.val
  rw [lvsI_len] at *
  obtain ⟨b, off, u, rfl, hb, hcu, hu⟩ := h3.at (k := l) (lvsI_get n seed h (h + 1) l (by omega))
  obtain ⟨ua, uc, rfl⟩ := hu.val
  have HLN := Lib.hid (lvI_len n seed h l)
  have HSH := Lib.hid (lvI_short n seed h l)
  obtain ⟨b2, off2, u2, rfl, hb2, hcu2, hu2⟩ := OSls.get hu (k := p) (by rw [HLN.out]; exact hp)
  have hxl := HSH.out _ (getD_mem (l := lvI n seed h l) (k := p) (by rw [HLN.out]; exact hp))
  rw [HLN.out] at *
  generalize hX : (lvI (n : Int) seed h l).getD p [] = X at *
  have HX := Lib.hid hX
  clear hX
  generalize 2 ^ (h - l) = M at *
  have c6 : w.cell? ⟨g, 6, none⟩ = some (.slice (some ⟨b, off, none⟩) (h + 1) vc) := h2.cell 6
  have hlI : (l : Int) < (h : Int) + 1 := by omega
  have hlN : l < h + 1 := by omega
  have hpI : (p : Int) < (M : Int) := by omega
  obtain ⟨xa, xn, xc, rfl⟩ := hu2.val
  have HC := Lib.hid (sclone_any (.slice xa xn xc) X w (by omega) hu2)
  clear h1 h2 h3 hu hu2 hxl
  go_enter Tryd.func83, Tryd.ntmps83
  go_wp2_with fail
  refine HO.out.mono ?_
  rintro e w2 ⟨rfl, rfl⟩
  go_wp2_with fail
  refine HC.out.mono ?_
  rintro e w3 ⟨x, rfl, hx, hb3⟩
  go_wp2
  go_ret
  exact ⟨x, rfl, by first | exact hx | (rw [HX.out]; exact hx), hb3⟩

/-- A hash is told while a signature is made. -/
theorem SgS.hash {w ws wr : World} {g n h A B ix : Nat} {seed : List Int} {SLv : Value} {SL : List (List Int)} {k : Nat} {pv : Value} (s : SgS w ws wr g n h A B ix seed SLv SL k pv) (hn : n ≤ 32) (hh : h ≤ 8) (hB : IsB seed) (p : Nat) (hk : k < h) (hp : p < 2 ^ (h - k)) :
    Calls Tryd.prog 83 #[.pointer (some ⟨g, 0, none⟩), .int .i64 k, .int .i64 p] wr fun e w2 => ∃ x ws2, e = .returned x ∧ Sl w2 x (((lvI n seed h k).getD p []).map (Value.int .u8)) ∧ SgS w ws2 w2 g n h A B ix seed SLv SL k pv ∧ MKB ws2 g n h seed ∧ wr.heap.size ≤ w2.heap.size := by
  by_cases h0 : k = 0
  · subst h0
    refine (at_any n h g 0 p seed wr hn hh hB s.mkR s.htR (by omega) hp).mono ?_
    rintro e w2 ⟨x, rfl, hx, hm, hg⟩
    exact ⟨x, w2, rfl, hx, s.first hm hg, hm, hg.size⟩
  · refine (at_built n h g k p seed wr hn hh (s.mkBR h0) (by omega) hp).mono ?_
    rintro e w2 ⟨x, rfl, hx, hb⟩
    refine ⟨x, ws, rfl, hx, s.below hb, ?_, hb.size⟩
    rcases s.mm with ⟨e, _⟩ | m
    · exact absurd e h0
    · exact m
theorem SgS.blk5 {w ws wr w5 : World} {g n h A B ix : Nat} {seed : List Int} {SLv : Value} {SL : List (List Int)} {k : Nat} {pv : Value} (s : SgS w ws wr g n h A B ix seed SLv SL k pv) (hg : wr.grownBy w5 pv.ownBlock) : Blk w5 B 61 #[.int .i64 ix, SLv, pv] := by
  obtain ⟨vs, r1, _⟩ := s.hO
  exact s.kR.grown hg (Ne.symm (own_blk_ne r1.1 s.kR (by decide)))
theorem SgS.hbase {w ws wr : World} {g n h A B ix : Nat} {seed : List Int} {SLv : Value} {SL : List (List Int)} {k : Nat} {pv : Value} (s : SgS w ws wr g n h A B ix seed SLv SL k pv) : ws.heap.size ≤ wr.heap.size := s.gr.size
/-- Where the signature is told. -/
theorem SgS.told {w ws wr : World} {g n h A B ix : Nat} {seed : List Int} {SLv : Value} {SL : List (List Int)} {k : Nat} {pv : Value} (s : SgS w ws wr g n h A B ix seed SLv SL k pv) : OSls (((wr.setCell ⟨A, 0, none⟩ (.int .i64 ix)).setCell ⟨A, 1, none⟩ SLv).setCell ⟨A, 2, none⟩ pv) 0 SLv SL ∧ OSls (((wr.setCell ⟨A, 0, none⟩ (.int .i64 ix)).setCell ⟨A, 1, none⟩ SLv).setCell ⟨A, 2, none⟩ pv) 0 pv (pathI n seed h ix k) ∧ MK (((wr.setCell ⟨A, 0, none⟩ (.int .i64 ix)).setCell ⟨A, 1, none⟩ SLv).setCell ⟨A, 2, none⟩ pv) g n h seed ∧ w.grownBy (((wr.setCell ⟨A, 0, none⟩ (.int .i64 ix)).setCell ⟨A, 1, none⟩ SLv).setCell ⟨A, 2, none⟩ pv) (some g) := by
  have hgA : wr.grownBy (((wr.setCell ⟨A, 0, none⟩ (.int .i64 ix)).setCell ⟨A, 1, none⟩ SLv).setCell ⟨A, 2, none⟩ pv) (some A) := only_setCell (p := ⟨A, 2, none⟩) (only_setCell (p := ⟨A, 1, none⟩) (set_onlyG wr A 0 _) (Or.inl rfl) _) (Or.inl rfl) _
  have hnb := sig_noB (i := 0) (sv := .slice none 0 0) (lv := .slice none 0 0) ⟨_, _, _, rfl⟩ ⟨_, _, _, rfl⟩
  have hbw : Below w.heap.size wr (((wr.setCell ⟨A, 0, none⟩ (.int .i64 ix)).setCell ⟨A, 1, none⟩ SLv).setCell ⟨A, 2, none⟩ pv) := (Below.refl _ _).grown hgA s.gwR.size (fun k hk => by cases hk; exact s.wA)
  exact ⟨OSls.keepM s.hsR s.kAR (by decide) hnb hgA, OSls.base (OSls.keepM s.hO s.kAR (by decide) hnb hgA) (Nat.zero_le _), s.mkR.keepS s.kAR hnb hgA, only_below0 s.gwR hbw⟩

set_option maxRecDepth 100000 in
set_option maxHeartbeats 4000000 in
/-- Sign, where the number and the digest may be. -/
theorem msign_ok (n h g ix : Nat) (seed : List Int) (vd : Value) (dg : List Int) (w : World) (hn0 : 1 ≤ n) (hn : n ≤ 32) (hh : h ≤ 8) (hsl : seed.length ≤ 64) (hB : IsB seed) (hk : MK w g n h seed) (ht : Tabs w) (hi : ix < 2 ^ h) (hBd : IsB dg) (hd : Sl w vd (dg.map (Value.int .u8))) (hdl : dg.length = n) :
    Calls Tryd.prog 37 #[.pointer (some ⟨g, 0, none⟩), .int .i64 ix, vd] w fun e w' => ∃ cv pv, e = .returned (.tuple #[.agg #[.int .i64 ix, cv, pv], .int .i64 0]) ∧ OSls w' 0 cv (signL n seed ix dg) ∧ OSls w' 0 pv (pathI n seed h ix h) ∧ MK w' g n h seed ∧ w.grownBy w' (some g) := by
  have hi8 : ix < 256 := Nat.lt_of_lt_of_le hi (Nat.le_trans (Nat.pow_le_pow_right (by omega) hh) (by decide))
  have hbA : Below w.heap.size w (w.alloc (.cells #[.int .i64 0, .slice none 0 0, .slice none 0 0] 61)) := (Below.refl _ _).alloc (Nat.le_refl _) _
  have kA := Blk.new w 61 #[.int .i64 0, .slice none 0 0, .slice none 0 0]
  have hkA := hk.below hbA
  have HN := Lib.hid (mnone_any g n h seed _ hn0 hkA)
  have htA := ht.below hbA
  have hdA := hd.below hbA (Nat.le_refl _)
  obtain ⟨dva, dvn, dvc, rfl⟩ := hd.val
  clear hk ht hd
  go_enter Tryd.func37, Tryd.ntmps37
  go_wp2_with fail
  generalize (w.alloc (.cells #[.int .i64 0, .slice none 0 0, .slice none 0 0] 61)) = w1 at *
  refine HN.out.mono ?_
  rintro e w2 ⟨rfl, rfl⟩
  obtain ⟨sv, d, lv, hsv, hlv, hsd, k⟩ := hkA.blk
  have c0 : w1.cell? ⟨g, 0, none⟩ = some (.int .i64 n) := k.cell 0
  have c1 : w1.cell? ⟨g, 1, none⟩ = some (.int .i64 h) := k.cell 1
  have c2 : w1.cell? ⟨g, 2, none⟩ = some sv := k.cell 2
  have hx2 : ¬ (ix : Int) < 0 := by omega
  have hx3 : (ix : Int) / 2 ^ h ≤ 0 := by
    have hi' : (ix : Int) < 2 ^ h := by have := Int.ofNat_lt.2 hi; simpa using this
    rw [Int.ediv_eq_zero_of_lt (by omega) hi']; omega
  obtain ⟨sa, sn, sc, rfl⟩ := hsv
  have HSG := Lib.hid (fun w' (q : Below w1.heap.size w1 w') => sign_own n (.slice sa sn sc) seed ix (.slice dva dvn dvc) dg w' (by omega) (by omega) hB (hsd.below q (Nat.le_refl _)) hBd (hdA.below q (Nat.le_refl _)) (htA.below q))
  rw [show signE (n : Int) seed.length ix dg.length = 0 from by unfold signE; rw [if_pos ⟨by unfold canB; exact decide_eq_true (by omega), by omega⟩]] at HSG
  have HKR := Lib.hid (fun w' (q : Below w1.heap.size w1 w') => show w'.cell? ⟨g, 0, none⟩ = some (.int .i64 n) ∧ w'.cell? ⟨g, 2, none⟩ = some (.slice sa sn sc) from ⟨(k.belowS q).cell 0, (k.belowS q).cell 2⟩)
  have hG := Lib.hid (HKR.out _ (Below.refl _ _))
  have HKA := Lib.hid hkA
  have HTA := Lib.hid htA
  have HBA := Lib.hid hbA
  have HAB := Lib.hid kA
  have HLIM := Lib.hid hi
  clear hsd htA hdA hkA hbA k kA hlv c0 c2 hi
  have HSI := Lib.hid (signL_isB n seed ix dg)
  generalize hSL : signL (n : Int) seed ix dg = SL at *
  have HSL := Lib.hid hSL
  clear hSL
  go_wp2
  go_region_held3 (fun w' => w'.cell? ⟨g, 0, none⟩ = some (.int .i64 n) ∧ w'.cell? ⟨g, 2, none⟩ = some (.slice sa sn sc)) (exact hG.out) (first | (go_at_call 82; refine (HSG.out _ (by first | exact Below.refl _ _ | exact (Below.refl _ _).drew)).mono ?_; rintro e w5 ⟨x5, rfl, hx5, hb5⟩; have hb5 : Below w1.heap.size w1 w5 := ⟨hb5.os, hb5.tape, hb5.output, hb5.size, hb5.block⟩; have hG := Lib.hid (HKR.out _ hb5)))
  obtain ⟨ca, cc, rfl⟩ := hx5.val
  have hbB : Below w5.heap.size w5 (w5.alloc (.cells #[.int .i64 ix, .slice ca SL.length cc, .slice none 0 0] 61)) := (Below.refl _ _).alloc (Nat.le_refl _) _
  have kB := Blk.new w5 61 #[.int .i64 ix, .slice ca SL.length cc, .slice none 0 0]
  have hkB := HKA.out.below (below_trans2 hb5 hbB)
  have htB := HTA.out.below (below_trans2 hb5 hbB)
  have hxB := hx5.below hbB
  have hgB := only_of_below (HBA.out.trans ((below_trans2 hb5 hbB).mono HBA.out.size)) (some g)
  have kA := HAB.out.belowS (below_trans2 hb5 hbB)
  have hgne : g < w1.heap.size := by obtain ⟨_, _, _, _, _, _, k⟩ := HKA.out.blk; exact k.lt
  have hB5 : w1.heap.size ≤ w5.heap.size := hb5.size
  clear hx5 hb5 hbB hG HSG HKR
  have hAB : w.heap.size < w5.heap.size := Nat.lt_of_lt_of_le HAB.out.lt hB5
  have HS0 := Lib.hid (show SgS w (w5.alloc (.cells #[.int .i64 ix, .slice ca SL.length cc, .slice none 0 0] 61)) (w5.alloc (.cells #[.int .i64 ix, .slice ca SL.length cc, .slice none 0 0] 61)) g n h w.heap.size w5.heap.size ix seed (.slice ca SL.length cc) SL 0 (.slice none 0 0) from ⟨.inl ⟨rfl, hkB⟩, htB, hxB, kA, ⟨_, ⟨_, _, _, rfl⟩, kB⟩, hgB, World.grownBy.refl _ _, kB, OSls.nil _ _, fun _ => rfl, ⟨_, _, _, rfl⟩, hAB, Nat.le_refl _⟩)
  clear hkB htB hxB hgB kA kB
  go_wp2
  generalize (w5.alloc (.cells #[.int .i64 ix, .slice ca SL.length cc, .slice none 0 0] 61)) = wx at *
  go_loopw [11, 12] (fun l p wr => ∃ (k : Nat) (pv : Value) (ws : World), l = .int .i64 k ∧ k ≤ h ∧ p = .int .i64 ((ix / 2 ^ k : Nat) : Int) ∧ SgS w ws wr g n h w.heap.size w5.heap.size ix seed (.slice ca SL.length cc) SL k pv) (fun l _ _ => h - (intOf l).toNat)
  case atStart => exact ⟨0, _, wx, rfl, by omega, by simp, HS0.out⟩
  case round =>
    clear HS0
    obtain ⟨k, pv, ws, rfl, hk, rfl, hS⟩ := hrel
    obtain ⟨sv1, d1, lv1, _, _, _, kg⟩ := hS.mkR.blk
    have c1 : wr.cell? ⟨g, 1, none⟩ = some (.int .i64 h) := kg.cell 1
    obtain ⟨pa, pc, rfl⟩ := hS.hO.val
    rw [pathI_len] at hS
    have q2 : wr.cell? ⟨w5.heap.size, 2, none⟩ = some (.slice pa k pc) := hS.kR.cell 2
    clear kg
    by_cases hlt : k < h
    · have hkI : (k : Int) < (h : Int) := by omega
      have HPN := Lib.hid (show ix / 2 ^ (k + 1) = ix / 2 ^ k / 2 by rw [Nat.pow_succ, Nat.div_div_eq_div_mul])
      have hPb : ix / 2 ^ k ≤ ix := Nat.div_le_self _ _
      have HTL := Lib.hid (twin_lt HLIM.out hlt)
      have HX := Lib.hid (fun w' (q : Below wr.heap.size wr w') => (hS.below q).hash hn hh hB (twin (ix / 2 ^ k)) hlt HTL.out)
      have HLN := Lib.hid (show (pathI n seed h ix k).length + 1 ≤ 5000000000000 by rw [pathI_len]; omega)
      have HNX := Lib.hid (fun (wa wb : World) (pv v5 : Value) (wsa : World) (s : SgS w wsa wa g n h w.heap.size w5.heap.size ix seed (.slice ca SL.length cc) SL k pv) (m : MKB wsa g n h seed) (hO : OSls wb wsa.heap.size v5 (pathI n seed h ix k ++ [(lvI n seed h k).getD (twin (ix / 2 ^ k)) []])) (hb : Below wsa.heap.size wa wb) (hg : wa.grownBy wb pv.ownBlock) => s.next m hO hb hg)
      generalize (lvI (n : Int) seed h k).getD (twin (ix / 2 ^ k)) [] = X at *
      generalize hPI : pathI (n : Int) seed h ix k = PI at *
      have HPI := Lib.hid hPI
      generalize ix / 2 ^ k = P at *
      have hxor : bits BinOp.xor IntKind.i64 (P : Int) 1 = ((twin P : Nat) : Int) := xor_one _ (by omega)
      have hqd : ((P : Int)).tdiv 2 = ((P / 2 : Nat) : Int) := by rw [Int.tdiv_eq_ediv_of_nonneg (by omega)]; omega
      have HWP := Lib.hid (show wrap64 ((P : Int) / 2) = ((P / 2 : Nat) : Int) by unfold wrap64; omega)
      generalize twin P = tw at *
      clear hPb hS hPI
      go_wp2
      go_region_law (first
        | (refine step_append_textM rfl (.tmp 63) (.tmp 69) rfl ws2.heap.size _ PI rfl hO3 w2.heap.size 1 rfl (.slice xa xn xc) hc2 X hx2 HLN.out (Nat.le_trans hS2.hbase hbA.size) ?_; intro l5 w6 hO5 hb5 hg5; obtain ⟨a5, c5, rfl⟩ := hO5.val; have k5 := hS3.blk5 hg5; have q5 : w6.cell? ⟨w5.heap.size, 2, none⟩ = some (.slice pa k pc) := k5.cell 2; have f5 : w6.frozen? ⟨w5.heap.size, 2, none⟩ = false := k5.frozen 2)
        | (go_simp; go_at_call 83; refine (HX.out _ (by first | exact Below.refl _ _ | exact (Below.refl _ _).drew)).mono ?_; rintro e w2 ⟨x1, ws2, rfl, hx1, hS2, hm2, hsz2⟩; obtain ⟨xa, xn, xc, rfl⟩ := hx1.val; have q7 : w2.cell? ⟨w5.heap.size, 2, none⟩ = some (.slice pa k pc) := hS2.kR.cell 2; have hbA : Below w2.heap.size w2 (w2.alloc (.cells #[.slice xa xn xc] 22)) := (Below.refl _ _).alloc (Nat.le_refl _) _; have hS3 := hS2.below hbA; have q8 : (w2.alloc (.cells #[.slice xa xn xc] 22)).cell? ⟨w5.heap.size, 2, none⟩ = some (.slice pa k pc) := hS3.kR.cell 2; have hO3 := hS3.hO; rw [HPI.out] at hO3; have hx2 := hx1.below hbA (Nat.le_refl _); have hc2 := (Blk.new w2 22 #[.slice xa xn xc]).cell 0))
      all_goals
        have hS6 := HNX.out _ _ _ _ _ hS3 hm2 hO5 hb5 hg5
        rw [List.length_append, List.length_singleton] at hS6
        clear hO5 hb5 hg5 hS3 hS2 hO3
        go_wp2
        exact ⟨⟨k + 1, _, ws2, by go_num, by omega, by rw [HPN.out, HWP.out], hS6⟩, by simp [intOf]; omega⟩
    · obtain rfl : k = h := by omega
      have hkI : ¬ (k : Int) < (k : Int) := by omega
      obtain ⟨z0, z1, z2⟩ := rec3 hS.kR
      have kAR := hS.kAR
      obtain ⟨y0, y1, y2⟩ := rec3 kAR
      have y3 := kAR.frozen 0
      have y4 := kAR.frozen 1
      have y5 := kAR.frozen 2
      have HS := Lib.hid hS
      clear hS kAR
      go_wp2
      exact bodyPost_ret (v := .tuple #[.agg #[.int .i64 ix, .slice ca SL.length cc, .slice pa k pc], .int .i64 0]) (by rw [results_cell_tmp rfl]; go_simp) rfl ⟨_, _, rfl, by rw [HSL.out]; exact HS.out.told.1, HS.out.told.2⟩

end Go.Proofs.YtililoojjfcfgaaDoor

namespace Go.Proofs.YtililoojjfcfgaaDoor
open Go.RowKit
set_option linter.unusedVariables false

set_option maxRecDepth 100000 in
set_option maxHeartbeats 2000000 in
theorem msign_idx (n h g : Nat) (idx : Int) (seed : List Int) (vd : Value) (w : World) (hn0 : 1 ≤ n) (hh : h ≤ 8) (hk : MK w g n h seed) (hbad : idx < 0 ∨ 2 ^ h ≤ idx) :
    Calls Tryd.prog 37 #[.pointer (some ⟨g, 0, none⟩), .int .i64 idx, vd] w fun e w' => e = .returned (.tuple #[.agg #[.int .i64 0, .slice none 0 0, .slice none 0 0], .int .i64 1]) ∧ Below w.heap.size w w' := by
  have hbA : Below w.heap.size w (w.alloc (.cells #[.int .i64 0, .slice none 0 0, .slice none 0 0] 61)) := (Below.refl _ _).alloc (Nat.le_refl _) _
  have kA := Blk.new w 61 #[.int .i64 0, .slice none 0 0, .slice none 0 0]
  have hkA := hk.below hbA
  have HN := Lib.hid (mnone_any g n h seed _ hn0 hkA)
  obtain ⟨z0, z1, z2⟩ := rec3 kA
  obtain ⟨sv, d, lv, _, _, _, k⟩ := hkA.blk
  have c1 : (w.alloc (.cells #[.int .i64 0, .slice none 0 0, .slice none 0 0] 61)).cell? ⟨g, 1, none⟩ = some (.int .i64 h) := k.cell 1
  clear k hk hkA
  have hpos : (0 : Int) < 2 ^ h := Int.pow_pos (by decide)
  rcases hbad with hx | hx
  · clear hpos
    go_enter Tryd.func37, Tryd.ntmps37
    go_wp2_with fail
    refine HN.out.mono ?_
    rintro e w1 ⟨rfl, rfl⟩
    go_wp2
    exact bodyPost_ret (by rw [results_cell_tmp rfl]; go_simp) rfl ⟨rfl, hbA⟩
  · have hx0 : ¬ idx < 0 := by omega
    have hx2 : 0 < idx / 2 ^ h := by
      have : 1 ≤ idx / 2 ^ h := (Int.le_ediv_iff_mul_le hpos).2 (by omega)
      omega
    clear hpos hx
    go_enter Tryd.func37, Tryd.ntmps37
    go_wp2_with fail
    refine HN.out.mono ?_
    rintro e w1 ⟨rfl, rfl⟩
    go_wp2
    exact bodyPost_ret (by rw [results_cell_tmp rfl]; go_simp) rfl ⟨rfl, hbA⟩

set_option maxRecDepth 100000 in
set_option maxHeartbeats 2000000 in
theorem msign_len (n h g ix : Nat) (seed : List Int) (vd : Value) (dg : List Int) (w : World) (hn0 : 1 ≤ n) (hh : h ≤ 8) (hB : IsB seed) (hk : MK w g n h seed) (ht : Tabs w) (hi : ix < 2 ^ h) (hBd : IsB dg) (hd : Sl w vd (dg.map (Value.int .u8))) (hdl : dg.length ≠ n) :
    Calls Tryd.prog 37 #[.pointer (some ⟨g, 0, none⟩), .int .i64 ix, vd] w fun e w' => e = .returned (.tuple #[.agg #[.int .i64 0, .slice none 0 0, .slice none 0 0], .int .i64 1]) ∧ Below w.heap.size w w' := by
  have hi8 : ix < 256 := Nat.lt_of_lt_of_le hi (Nat.le_trans (Nat.pow_le_pow_right (by omega) hh) (by decide))
  have hbA : Below w.heap.size w (w.alloc (.cells #[.int .i64 0, .slice none 0 0, .slice none 0 0] 61)) := (Below.refl _ _).alloc (Nat.le_refl _) _
  have kA := Blk.new w 61 #[.int .i64 0, .slice none 0 0, .slice none 0 0]
  have hkA := hk.below hbA
  have HN := Lib.hid (mnone_any g n h seed _ hn0 hkA)
  have htA := ht.below hbA
  have hdA := hd.below hbA (Nat.le_refl _)
  obtain ⟨dva, dvn, dvc, rfl⟩ := hd.val
  clear hk ht hd
  go_enter Tryd.func37, Tryd.ntmps37
  go_wp2_with fail
  generalize (w.alloc (.cells #[.int .i64 0, .slice none 0 0, .slice none 0 0] 61)) = w1 at *
  refine HN.out.mono ?_
  rintro e w2 ⟨rfl, rfl⟩
  obtain ⟨sv, d, lv, hsv, hlv, hsd, k⟩ := hkA.blk
  have c1 : w1.cell? ⟨g, 1, none⟩ = some (.int .i64 h) := k.cell 1
  have hx2 : ¬ (ix : Int) < 0 := by omega
  have hx3 : (ix : Int) / 2 ^ h ≤ 0 := by
    have hi' : (ix : Int) < 2 ^ h := by have := Int.ofNat_lt.2 hi; simpa using this
    rw [Int.ediv_eq_zero_of_lt (by omega) hi']; omega
  obtain ⟨sa, sn, sc, rfl⟩ := hsv
  have HSG := Lib.hid (fun w' (q : Below w1.heap.size w1 w') => sign_own n (.slice sa sn sc) seed ix (.slice dva dvn dvc) dg w' (by omega) (by omega) hB (hsd.below q (Nat.le_refl _)) hBd (hdA.below q (Nat.le_refl _)) (htA.below q))
  rw [show signE (n : Int) seed.length ix dg.length = 1 from by unfold signE; rw [if_neg (fun q => hdl (by have := q.2; omega))]] at HSG
  have HKR := Lib.hid (fun w' (q : Below w1.heap.size w1 w') => show w'.cell? ⟨g, 0, none⟩ = some (.int .i64 n) ∧ w'.cell? ⟨g, 2, none⟩ = some (.slice sa sn sc) from ⟨(k.belowS q).cell 0, (k.belowS q).cell 2⟩)
  have hG := Lib.hid (HKR.out _ (Below.refl _ _))
  have HAB := Lib.hid kA
  have HBA := Lib.hid hbA
  clear hsd htA hdA hkA hbA k kA hlv hi
  go_wp2
  go_region_held3 (fun w' => w'.cell? ⟨g, 0, none⟩ = some (.int .i64 n) ∧ w'.cell? ⟨g, 2, none⟩ = some (.slice sa sn sc)) (exact hG.out) (first | (go_at_call 82; refine (HSG.out _ (by first | exact Below.refl _ _ | exact (Below.refl _ _).drew)).mono ?_; rintro e w5 ⟨x5, rfl, hx5, hb5⟩; have hb5 : Below w1.heap.size w1 w5 := ⟨hb5.os, hb5.tape, hb5.output, hb5.size, hb5.block⟩; have hG := Lib.hid (HKR.out _ hb5)))
  have kA := HAB.out.belowS hb5
  obtain ⟨z0, z1, z2⟩ := rec3 kA
  have y3 := kA.frozen 0
  have y4 := kA.frozen 1
  have y5 := kA.frozen 2
  have hbz := HBA.out.trans (hb5.mono HBA.out.size)
  have hbs := ((hbz.setCell (p := ⟨w.heap.size, 0, none⟩) (Nat.le_refl _) (.int .i64 0)).setCell (p := ⟨w.heap.size, 1, none⟩) (Nat.le_refl _) (.slice none 0 0)).setCell (p := ⟨w.heap.size, 2, none⟩) (Nat.le_refl _) (.slice none 0 0)
  have HBS := Lib.hid hbs
  clear hx5 hb5 hG HSG HKR kA hbz hbs
  go_wp2
  exact bodyPost_ret (by rw [results_cell_tmp rfl]; go_simp) rfl ⟨rfl, HBS.out⟩

end Go.Proofs.YtililoojjfcfgaaDoor

namespace Go.Proofs.YtililoojjfcfgaaDoor
open Go.RowKit
set_option linter.unusedVariables false

set_option maxRecDepth 100000 in
set_option maxHeartbeats 2000000 in
theorem refMsign_no (n h g : Nat) (idx : Int) (seed : List Int) (vd : Value) (dg : List Int) (w : World) (hh : h ≤ 8) (hk : RK w g n h seed) (hd : Sl w vd (dg.map (Value.int .u8))) (hbad : idx < 0 ∨ 2 ^ h ≤ idx ∨ dg.length ≠ n) :
    Calls Tryd.prog 47 #[.pointer (some ⟨g, 0, none⟩), .int .i64 idx, vd] w fun e w' => e = .returned (.tuple #[.agg #[.int .i64 0, .slice none 0 0, .slice none 0 0], .int .i64 1]) ∧ Below w.heap.size w w' := by
  have hbA : Below w.heap.size w (w.alloc (.cells #[.int .i64 0, .slice none 0 0, .slice none 0 0] 61)) := (Below.refl _ _).alloc (Nat.le_refl _) _
  have kA := Blk.new w 61 #[.int .i64 0, .slice none 0 0, .slice none 0 0]
  obtain ⟨z0, z1, z2⟩ := rec3 kA
  obtain ⟨sv, lv, _, k, _⟩ := hk.below hbA
  have c0 : (w.alloc (.cells #[.int .i64 0, .slice none 0 0, .slice none 0 0] 61)).cell? ⟨g, 0, none⟩ = some (.int .i64 n) := k.cell 0
  have c1 : (w.alloc (.cells #[.int .i64 0, .slice none 0 0, .slice none 0 0] 61)).cell? ⟨g, 1, none⟩ = some (.int .i64 h) := k.cell 1
  obtain ⟨da, dc, rfl, hdc, hdm⟩ := hd.shape
  rw [List.length_map] at *
  obtain ⟨H, hH⟩ : ∃ H : Nat, H = 2 ^ h := ⟨_, rfl⟩
  have hH1 : 1 ≤ H ∧ H ≤ 256 := by rw [hH]; exact ⟨Nat.one_le_two_pow, Nat.pow_le_pow_right (by omega) hh⟩
  have hWH : ((2 : Int) ^ h) = (H : Int) := by rw [hH]; simp
  have hW : wrap64 ((2 : Int) ^ h) = (H : Int) := by rw [hWH]; unfold wrap64; omega
  rw [hWH] at hbad
  clear k hk hd hH hWH
  by_cases hx : idx < 0
  · clear hbad
    go_enter Tryd.func47, Tryd.ntmps47
    go_wp2
    exact bodyPost_ret (by rw [results_cell_tmp rfl]; go_simp) rfl ⟨rfl, hbA⟩
  · by_cases hy : (H : Int) ≤ idx
    · clear hbad
      go_enter Tryd.func47, Tryd.ntmps47
      go_wp2
      exact bodyPost_ret (by rw [results_cell_tmp rfl]; go_simp) rfl ⟨rfl, hbA⟩
    · have hz : ((dg.length : Int) != (n : Int)) = true := by
        have : dg.length ≠ n := by omega
        simp; omega
      clear hbad
      go_enter Tryd.func47, Tryd.ntmps47
      go_wp2
      exact bodyPost_ret (by rw [results_cell_tmp rfl]; go_simp) rfl ⟨rfl, hbA⟩

end Go.Proofs.YtililoojjfcfgaaDoor
