/- Sign of the chains' layer, the reference's: its list is the call's own. Trees of signing keys: Sign, the reference's, where the number and the digest may be. Trees of signing keys: keys that may not be; the law of New. -/
import Derived.Test.YtililoojjfcfgaaDoorMtsQ1
import Derived.Test.YtililoojjfcfgaaDoorMtsM2
namespace Go.Proofs.YtililoojjfcfgaaDoor
open Go.RowKit
set_option linter.unusedVariables false

set_option maxRecDepth 100000 in
set_option maxHeartbeats 1000000 in
theorem refSign_own (size : Int) (v : Value) (seed : List Int) (idx : Int) (vd : Value) (dg : List Int) (w : World) (hx0 : -9223372036854775808 ≤ idx) (hx1 : idx ≤ 9223372036854775807)
    (hB : IsB seed) (hs : Sl w v (seed.map (Value.int .u8))) (hBd : IsB dg) (hsd : Sl w vd (dg.map (Value.int .u8))) :
    Calls Tryd.prog 91 #[.int .i64 size, v, .int .i64 idx, vd] w fun e w' => ∃ x, e = .returned (.tuple #[x, .int .i64 (signE size seed.length idx dg.length)]) ∧ OSls w' 0 x (signL size seed idx dg) ∧ Below w.heap.size w w' := by
  have HC := Lib.hid (refCan_any size v seed idx w hs)
  obtain ⟨va, vn, vc, rfl⟩ := hs.val
  obtain ⟨da, dc, rfl, hdc, _⟩ := hsd.shape
  rw [List.length_map] at *
  have HE := Lib.hid (show signE size seed.length idx dg.length = if canB size seed.length idx = true ∧ (dg.length : Int) = size then 0 else 1 from rfl)
  have HL := Lib.hid (show signL size seed idx dg = if canB size seed.length idx = true ∧ (dg.length : Int) = size then sgU size seed idx (digitsOf dg) (4 * dg.length + 5) else [] from rfl)
  by_cases hcb : canB size seed.length idx = true
  · have hcI : 1 ≤ size ∧ size ≤ 32 := by unfold canB at hcb; have := of_decide_eq_true hcb; omega
    rw [hcb] at HC HE HL
    clear hcb
    by_cases hln : (dg.length : Int) = size
    · rw [if_pos ⟨rfl, hln⟩] at HE HL
      subst hln
      rw [HE.out, HL.out]
      have hl32 : dg.length ≤ 32 := by omega
      have HDG := Lib.hid (refDigits_short dg (.slice da dg.length dc) hBd hl32 w hsd)
      have HDL := Lib.hid (digits_len dg hl32)
      have HDM := Lib.hid (fun j => digits_mem (a := dg) hl32 j)
      generalize digitsOf dg = DD at *
      go_enter Tryd.func91, Tryd.ntmps91
      go_wp2_with fail
      refine HC.out.mono ?_
      rintro e w1 ⟨rfl, rfl⟩
      go_wp2_with fail
      refine HDG.out.mono ?_
      rintro e w1 ⟨v1, rfl, hd1, hb1⟩
      obtain ⟨xa, xc, rfl, _, _⟩ := hd1.shape
      rw [List.length_map, HDL.out]
      have hs := hs.below hb1 (Nat.le_refl _)
      
      have hb1s := hb1.size
      clear HDG hsd HC
      go_wp2
      go_loopw [10, 27] (fun l i wr => ∃ (k : Nat) (lv : Value), lv = l ∧ k ≤ 4 * dg.length + 5 ∧ i = .int .i64 k ∧ OSls wr w1.heap.size lv (sgU dg.length seed idx DD k) ∧ Below w1.heap.size w1 wr) (fun _ i _ => 4 * dg.length + 5 - (intOf i).toNat)
      case atStart => exact ⟨0, _, rfl, by omega, rfl, OSls.nil _ _, Below.refl _ _⟩
      case round =>
        obtain ⟨k, l, rfl, hk, rfl, hO, hbr1⟩ := hrel
        by_cases hlt : k < 4 * dg.length + 5
        · obtain ⟨xb, xo, rfl, hxb, hxc⟩ := hd1.ints (k := k) (by rw [HDL.out]; exact hlt)
          have hxk : wr.cell? ⟨xb, xo + k, none⟩ = some (.int .i64 (DD.getD k 0)) := by rw [hbr1.cell (p := ⟨xb, xo + k, none⟩) hxb]; exact hxc k (by rw [HDL.out]; exact hlt)
          have hdm := HDM.out k
          have HSN := Lib.hid (sgU_succ (dg.length : Int) seed idx DD k)
          generalize DD.getD k 0 = D at *
          obtain ⟨d, rfl⟩ : ∃ d : Nat, D = d := ⟨D.toNat, by omega⟩
          rw [Int.toNat_natCast] at HSN
          have hs := hs.below hbr1 (Nat.le_refl _)
          
          have hkI : (k : Int) < 4 * (dg.length : Int) + 5 := by omega
          clear hxc
          go_wp2_with fail
          refine (refSecret_any dg.length (.slice va vn vc) seed idx k wr hx0 hx1 (by omega) (by omega) hB hs).mono ?_
          rintro e w2 ⟨x1, rfl, hx1, hb2⟩
          
          have hO := hO.below hb2
          have hbr1 := hbr1.trans (hb2.mono hbr1.size)
          clear hb2
          go_wp2_with fail
          refine (refChain0_any dg.length x1 _ idx k d w2 (by assumption) (by assumption) (by omega) (by omega) (by omega) (by have := secI_len dg.length seed idx k; omega) (secI_isB _ _ _ _) hx1).mono ?_
          rintro e w3 ⟨x2, rfl, hx2, hb3⟩
          have hO := hO.below hb3
          have hbr1 := hbr1.trans (hb3.mono hbr1.size)
          obtain ⟨a2, l2, c2, rfl⟩ := hx2.val
          have hbA : Below w3.heap.size w3 (w3.alloc (.cells #[.slice a2 l2 c2] 22)) := (Below.refl _ _).alloc (Nat.le_refl _) _
          have HLN := Lib.hid (show (sgU (dg.length : Int) seed idx DD k).length + 1 ≤ 5000000000000 by rw [sgU_len]; omega)
          have hO := hO.below hbA
          have hx2 := hx2.below hbA (Nat.le_refl _)
          have hbr1 := hbr1.trans (hbA.mono hbr1.size)
          have hc2 := (Blk.new w3 22 #[.slice a2 l2 c2]).cell 0
          clear hb3 hxk
          go_wp2_with (at_builtin; refine wpList_append_text rfl _ _ rfl w1.heap.size _ _ rfl hO w3.heap.size 1 rfl (.slice a2 l2 c2) hc2 _ hx2 HLN.out hbr1.size ?_)
          intro l5 w5 hO5 hb5 hg5
          have hbr1 := hbr1.trans hb5
          clear hg5 hb5 hO hx2 hc2 hbA
          go_wp2
          go_roundw
          case rel => exact ⟨k + 1, l5, rfl, by omega, by go_num, by rw [HSN.out]; exact hO5, hbr1⟩
          case measure => simp [intOf]; omega
        · obtain rfl : k = 4 * dg.length + 5 := by omega
          have hkI : ¬ (4 * (dg.length : Int) + 5 : Int) < 4 * (dg.length : Int) + 5 := by omega
          go_wp2
          go_ret2
          exact ⟨_, rfl, (OSls.base hO (Nat.zero_le _)), hb1.trans (hbr1.mono hb1s)⟩
    · rw [if_neg (fun h => hln h.2)] at HE HL
      rw [HE.out, HL.out]
      go_enter Tryd.func91, Tryd.ntmps91
      go_wp2_with fail
      refine HC.out.mono ?_
      rintro e w1 ⟨rfl, rfl⟩
      go_wp2
      go_ret2
      exact ⟨_, rfl, OSls.nil _ _, Below.refl _ _⟩
  · rw [if_neg (fun h => hcb h.1)] at HE HL
    rw [Bool.not_eq_true] at hcb
    rw [hcb] at HC
    rw [HE.out, HL.out]
    clear hcb
    go_enter Tryd.func91, Tryd.ntmps91
    go_wp2_with fail
    refine HC.out.mono ?_
    rintro e w1 ⟨rfl, rfl⟩
    go_wp2
    go_ret2
    exact ⟨_, rfl, OSls.nil _ _, Below.refl _ _⟩

end Go.Proofs.YtililoojjfcfgaaDoor

namespace Go.Proofs.YtililoojjfcfgaaDoor
open Go.RowKit
set_option linter.unusedVariables false

theorem RK.keepS {w w' : World} {g n h : Nat} {seed : List Int} (k : RK w g n h seed) {b : Nat} {cs : Array Value} (kb : Blk w b 61 cs) (hcs : ∀ (j : Nat) (x : Int), cs[j]? ≠ some (.int .u8 x)) (hg : w.grownBy w' (some b)) : RK w' g n h seed := by
  obtain ⟨sv, lv, h1, h2, h3⟩ := k
  have hne : some g ≠ some b := fun e => Blk.ne_ h2 kb (by decide) (by simpa using e)
  exact ⟨sv, lv, h1.keepG kb hcs hg, h2.grown hg hne, h3.keepGk kb (by decide) (by decide) hcs hg⟩

/-- What stands while the reference makes a signature. -/
structure SgR (w ws wr : World) (g n h A B ix : Nat) (seed : List Int) (SLv : Value) (SL : List (List Int)) (k : Nat) (pv : Value) : Prop where
  rk : RK ws g n h seed
  hs : OSls ws 0 SLv SL
  kA : Blk ws A 61 #[.int .i64 0, .slice none 0 0, .slice none 0 0]
  kB : ∃ p0, isSlV p0 ∧ Blk ws B 61 #[.int .i64 ix, SLv, p0]
  bw : Below w.heap.size w ws
  gr : ws.grownBy wr (some B)
  kR : Blk wr B 61 #[.int .i64 ix, SLv, pv]
  hO : OSls wr ws.heap.size pv (pathI n seed h ix k)
  sl : isSlV SLv
  hA : A < B
  wA : w.heap.size ≤ A
section
variable {w ws wr : World} {g n h A B ix : Nat} {seed : List Int} {SLv : Value} {SL : List (List Int)} {k : Nat} {pv : Value}
theorem SgR.rkR (s : SgR w ws wr g n h A B ix seed SLv SL k pv) : RK wr g n h seed := by
  obtain ⟨p0, hp, kb⟩ := s.kB
  exact s.rk.keepS kb (sig_noB s.sl hp) s.gr
theorem SgR.hsR (s : SgR w ws wr g n h A B ix seed SLv SL k pv) : OSls wr 0 SLv SL := by
  obtain ⟨p0, hp, kb⟩ := s.kB
  exact OSls.keepM s.hs kb (by decide) (sig_noB s.sl hp) s.gr
theorem SgR.kAR (s : SgR w ws wr g n h A B ix seed SLv SL k pv) : Blk wr A 61 #[.int .i64 0, .slice none 0 0, .slice none 0 0] :=
  s.kA.grown s.gr (by intro e; have := s.hA; simp at e; omega)
theorem SgR.bwR (s : SgR w ws wr g n h A B ix seed SLv SL k pv) : Below w.heap.size w wr :=
  below_of_only s.bw s.gr (Nat.le_trans s.wA (Nat.le_of_lt s.hA)) s.bw.size
/-- Behind memory that is new. -/
theorem SgR.below (s : SgR w ws wr g n h A B ix seed SLv SL k pv) {w2 : World} (hb : Below wr.heap.size wr w2) : SgR w ws w2 g n h A B ix seed SLv SL k pv :=
  { s with gr := only_below s.gr hb, kR := s.kR.belowS hb, hO := OSls.below s.hO hb }
/-- Behind an append and a store. -/
theorem SgR.next (s : SgR w ws wr g n h A B ix seed SLv SL k pv) {w5 : World} {v5 : Value} (hO : OSls w5 ws.heap.size v5 (pathI n seed h ix k ++ [(lvI n seed h k).getD (twin (ix / 2 ^ k)) []])) (hb : Below ws.heap.size wr w5) (hg : wr.grownBy w5 pv.ownBlock) : SgR w ws (w5.setCell ⟨B, 2, none⟩ v5) g n h A B ix seed SLv SL (k + 1) v5 := by
  obtain ⟨p0, hp, kb⟩ := s.kB
  obtain ⟨vs, r1, _⟩ := s.hO
  have k5 : Blk w5 B 61 #[.int .i64 ix, SLv, pv] := s.kR.grown hg (Ne.symm (own_blk_ne r1.1 s.kR (by decide)))
  have hpv : isSlV pv := by obtain ⟨a, c, e⟩ := s.hO.val; exact ⟨a, _, c, e⟩
  exact ⟨s.rk, s.hs, s.kA, ⟨p0, hp, kb⟩, s.bw, only_setCell (p := ⟨B, 2, none⟩) (only_below0 s.gr hb) (Or.inl rfl) _, k5.set_ 2 _, by
    rw [pathI_succ]; exact OSls.keepM hO k5 (by decide) (sig_noB s.sl hpv) (set_onlyG w5 B 2 v5), s.sl, s.hA, s.wA⟩
theorem SgR.blk5 {w5 : World} (s : SgR w ws wr g n h A B ix seed SLv SL k pv) (hg : wr.grownBy w5 pv.ownBlock) : Blk w5 B 61 #[.int .i64 ix, SLv, pv] := by
  obtain ⟨vs, r1, _⟩ := s.hO
  exact s.kR.grown hg (Ne.symm (own_blk_ne r1.1 s.kR (by decide)))
theorem SgR.hbase (s : SgR w ws wr g n h A B ix seed SLv SL k pv) : ws.heap.size ≤ wr.heap.size := s.gr.size
/-- Where the signature is told. -/
theorem SgR.told (s : SgR w ws wr g n h A B ix seed SLv SL k pv) : OSls (((wr.setCell ⟨A, 0, none⟩ (.int .i64 ix)).setCell ⟨A, 1, none⟩ SLv).setCell ⟨A, 2, none⟩ pv) 0 SLv SL ∧ OSls (((wr.setCell ⟨A, 0, none⟩ (.int .i64 ix)).setCell ⟨A, 1, none⟩ SLv).setCell ⟨A, 2, none⟩ pv) 0 pv (pathI n seed h ix k) ∧ Below w.heap.size w (((wr.setCell ⟨A, 0, none⟩ (.int .i64 ix)).setCell ⟨A, 1, none⟩ SLv).setCell ⟨A, 2, none⟩ pv) := by
  have hgA : wr.grownBy (((wr.setCell ⟨A, 0, none⟩ (.int .i64 ix)).setCell ⟨A, 1, none⟩ SLv).setCell ⟨A, 2, none⟩ pv) (some A) := only_setCell (p := ⟨A, 2, none⟩) (only_setCell (p := ⟨A, 1, none⟩) (set_onlyG wr A 0 _) (Or.inl rfl) _) (Or.inl rfl) _
  have hnb := sig_noB (i := 0) (sv := .slice none 0 0) (lv := .slice none 0 0) ⟨_, _, _, rfl⟩ ⟨_, _, _, rfl⟩
  exact ⟨OSls.keepM s.hsR s.kAR (by decide) hnb hgA, OSls.base (OSls.keepM s.hO s.kAR (by decide) hnb hgA) (Nat.zero_le _), below_of_only s.bwR hgA s.wA s.bwR.size⟩
/-- Where the sibling lies. -/
theorem SgR.look (s : SgR w ws wr g n h A B ix seed SLv SL k pv) (hk : k < h) (hi : ix < 2 ^ h) : ∃ b off vc b2 off2 uc xv, g < ws.heap.size ∧ b < ws.heap.size ∧ b2 < ws.heap.size ∧ wr.cell? ⟨g, 3, none⟩ = some (.slice (some ⟨b, off, none⟩) (h + 1) vc) ∧ wr.cell? ⟨b, off + k, none⟩ = some (.slice (some ⟨b2, off2, none⟩) (2 ^ (h - k)) uc) ∧ wr.cell? ⟨b2, off2 + twin (ix / 2 ^ k), none⟩ = some xv ∧ Sl wr xv (((lvI n seed h k).getD (twin (ix / 2 ^ k)) []).map (Value.int .u8)) := by
  obtain ⟨p0, hp, kb⟩ := s.kB
  have hnb := sig_noB (i := ix) s.sl hp
  obtain ⟨sv, lv, h1, h2, h3⟩ := s.rk
  have hne : some g ≠ some B := fun e => Blk.ne_ h2 kb (by decide) (by simpa using e)
  have k2 := h2.grown s.gr hne
  have r3 := h3.keepGk kb (by decide) (by decide) hnb s.gr
  obtain ⟨va, vc, rfl⟩ := h3.val
  rw [lvsI_len] at *
  have hlk := lvsI_get n seed h (h + 1) k (by omega)
  obtain ⟨b, off, u, rfl, hb, hcu, hu⟩ := h3.at (k := k) hlk
  obtain ⟨b', off', u', he, hb', hcu', hu'⟩ := r3.at (k := k) hlk
  cases he
  have hbB : b ≠ B := by
    intro e
    subst e
    have e2 := kb.cell (off + k)
    rw [hcu] at e2
    obtain ⟨us, m1, m2⟩ := h3
    obtain ⟨cur, m3, m4⟩ := m1.2 b (by simp [Value.ownBlock])
    have m5 := kb
    unfold Blk at m5
    rw [m3] at m5
    injection m5 with m5
    injection m5 with _ m6
    exact absurd m6 (by decide)
  have hcw : wr.cell? ⟨b, off + k, none⟩ = some u := (s.gr.cell_far ⟨b, off + k, none⟩ hb (by intro e; exact hbB (by simpa using e))).trans hcu
  obtain rfl : u = u' := by rw [hcw] at hcu'; exact Option.some.inj hcu'
  obtain ⟨ua, uc, rfl⟩ := hu.val
  have hln := lvI_len n seed h k
  have htl := twin_lt hi hk
  obtain ⟨b2, off2, x, rfl, hb2, hcx, hx⟩ := OSls.get hu (k := twin (ix / 2 ^ k)) (by rw [hln]; exact htl)
  obtain ⟨b2', off2', x', he, _, hcx', hx'⟩ := OSls.get hu' (k := twin (ix / 2 ^ k)) (by rw [hln]; exact htl)
  cases he
  rw [hln] at hcw
  exact ⟨b, off, vc, b2, off2, uc, x', h2.lt, hb, hb2, k2.cell 3, hcw, hcx', hx'⟩
end

set_option maxRecDepth 100000 in
set_option maxHeartbeats 20000000 in
theorem refMsign_ok (n h g ix : Nat) (seed : List Int) (vd : Value) (dg : List Int) (w : World) (hn0 : 1 ≤ n) (hn : n ≤ 32) (hh : h ≤ 8) (hsl : seed.length ≤ 64) (hB : IsB seed) (hk : RK w g n h seed) (hi : ix < 2 ^ h) (hBd : IsB dg) (hd : Sl w vd (dg.map (Value.int .u8))) (hdl : dg.length = n) :
    Calls Tryd.prog 47 #[.pointer (some ⟨g, 0, none⟩), .int .i64 ix, vd] w fun e w' => ∃ cv pv, e = .returned (.tuple #[.agg #[.int .i64 ix, cv, pv], .int .i64 0]) ∧ OSls w' 0 cv (signL n seed ix dg) ∧ OSls w' 0 pv (pathI n seed h ix h) ∧ Below w.heap.size w w' := by
  have hi8 : ix < 256 := Nat.lt_of_lt_of_le hi (Nat.le_trans (Nat.pow_le_pow_right (by omega) hh) (by decide))
  have hbA : Below w.heap.size w (w.alloc (.cells #[.int .i64 0, .slice none 0 0, .slice none 0 0] 61)) := (Below.refl _ _).alloc (Nat.le_refl _) _
  have hbB : Below w.heap.size w ((w.alloc (.cells #[.int .i64 0, .slice none 0 0, .slice none 0 0] 61)).alloc (.cells #[.int .i64 ix, .slice none 0 0, .slice none 0 0] 61)) := hbA.alloc hbA.size _
  have kA := (Blk.new w 61 #[.int .i64 0, .slice none 0 0, .slice none 0 0]).alloc (.cells #[.int .i64 ix, .slice none 0 0, .slice none 0 0] 61)
  have kB := Blk.new (w.alloc (.cells #[.int .i64 0, .slice none 0 0, .slice none 0 0] 61)) 61 #[.int .i64 ix, .slice none 0 0, .slice none 0 0]
  rw [World.size_alloc] at kB
  obtain ⟨sv0, lv0, _, k0, _⟩ := hk.below hbA
  have c0 : (w.alloc (.cells #[.int .i64 0, .slice none 0 0, .slice none 0 0] 61)).cell? ⟨g, 0, none⟩ = some (.int .i64 n) := k0.cell 0
  have c1 : (w.alloc (.cells #[.int .i64 0, .slice none 0 0, .slice none 0 0] 61)).cell? ⟨g, 1, none⟩ = some (.int .i64 h) := k0.cell 1
  have hkB := hk.below hbB
  have hdB := hd.below hbB (Nat.le_refl _)
  obtain ⟨da, dc, rfl, hdc, hdm⟩ := hd.shape
  rw [List.length_map] at *
  obtain ⟨H, hH⟩ : ∃ H : Nat, H = 2 ^ h := ⟨_, rfl⟩
  have hH1 : 1 ≤ H ∧ H ≤ 256 := by rw [hH]; exact ⟨Nat.one_le_two_pow, Nat.pow_le_pow_right (by omega) hh⟩
  have hWH : ((2 : Int) ^ h) = (H : Int) := by rw [hH]; simp
  have hW : wrap64 ((2 : Int) ^ h) = (H : Int) := by rw [hWH]; unfold wrap64; omega
  have HLIM := Lib.hid hi
  have hy : ¬ (H : Int) ≤ (ix : Int) := by omega
  have hx : ¬ (ix : Int) < 0 := by omega
  have hz : ((dg.length : Int) != (n : Int)) = false := by simp; omega
  have HDL := Lib.hid hdl
  clear k0 hk hd hH hWH hi hdl
  go_enter Tryd.func47, Tryd.ntmps47
  go_upto_region 4 with (fail)
  obtain ⟨sv, lv, hsv, kg, hlv⟩ := hkB
  obtain ⟨sa, sn, sc, rfl⟩ := hsv.val
  have d0 : ((w.alloc (.cells #[.int .i64 0, .slice none 0 0, .slice none 0 0] 61)).alloc (.cells #[.int .i64 ix, .slice none 0 0, .slice none 0 0] 61)).cell? ⟨g, 0, none⟩ = some (.int .i64 n) := kg.cell 0
  have d2 : ((w.alloc (.cells #[.int .i64 0, .slice none 0 0, .slice none 0 0] 61)).alloc (.cells #[.int .i64 ix, .slice none 0 0, .slice none 0 0] 61)).cell? ⟨g, 2, none⟩ = some (.slice sa sn sc) := kg.cell 2
  generalize ((w.alloc (.cells #[.int .i64 0, .slice none 0 0, .slice none 0 0] 61)).alloc (.cells #[.int .i64 ix, .slice none 0 0, .slice none 0 0] 61)) = w1 at *
  have HKB := Lib.hid kB
  have HKA := Lib.hid kA
  have HBB := Lib.hid hbB
  have HRK := Lib.hid (show RK w1 g n h seed from ⟨_, lv, hsv, kg, hlv⟩)
  have HSG := Lib.hid (fun w' (q : Below w1.heap.size w1 w') => refSign_own n (.slice sa sn sc) seed ix (.slice da dg.length dc) dg w' (by omega) (by omega) hB (hsv.below q (Nat.le_refl _)) hBd (hdB.below q (Nat.le_refl _)))
  rw [show signE (n : Int) seed.length ix dg.length = 0 from by unfold signE; rw [if_pos ⟨by unfold canB; exact decide_eq_true (by omega), by have := HDL.out; omega⟩]] at HSG
  generalize hSL : signL (n : Int) seed ix dg = SL at *
  have HSL := Lib.hid hSL
  have HGL := Lib.hid kg.lt
  clear hSL hsv kg hlv kA kB hbA hbB hdB c0 c1 hW hH1 hz hx hy
  have HKR := Lib.hid (fun w' (q : Below w1.heap.size w1 w') => show w'.cell? ⟨w.heap.size + 1, 1, none⟩ = some (.slice none 0 0) ∧ w'.frozen? ⟨w.heap.size + 1, 1, none⟩ = false from ⟨(HKB.out.belowS q).cell 1, (HKB.out.belowS q).frozen 1⟩)
  go_region_law (go_simp; go_at_call 91; refine (HSG.out _ (by first | exact Below.refl _ _ | exact (Below.refl _ _).drew)).mono ?_; rintro e w5 ⟨x5, rfl, hx5, hb5⟩; obtain ⟨ca, cc, rfl⟩ := hx5.val; have hb5 : Below w1.heap.size w1 w5 := ⟨hb5.os, hb5.tape, hb5.output, hb5.size, hb5.block⟩; obtain ⟨q1, f1⟩ := HKR.out _ hb5)
  all_goals
    have HS0 := Lib.hid (show SgR w (w5.setCell ⟨w.heap.size + 1, 1, none⟩ (.slice ca SL.length cc)) (w5.setCell ⟨w.heap.size + 1, 1, none⟩ (.slice ca SL.length cc)) g n h w.heap.size (w.heap.size + 1) ix seed (.slice ca SL.length cc) SL 0 (.slice none 0 0) from by
      have k5 := HKB.out.belowS hb5
      have gS := set_onlyG w5 (w.heap.size + 1) 1 (.slice ca SL.length cc)
      have nb := sig_noB (i := ix) (sv := .slice none 0 0) (lv := .slice none 0 0) ⟨_, _, _, rfl⟩ ⟨_, _, _, rfl⟩
      have kS := k5.set_ 1 (.slice ca SL.length cc)
      exact ⟨(HRK.out.below hb5).keepS k5 nb gS, OSls.keepM hx5 k5 (by decide) nb gS, (HKA.out.belowS hb5).grown gS (by simp), ⟨_, ⟨_, _, _, rfl⟩, kS⟩, below_of_only (HBB.out.trans (hb5.mono HBB.out.size)) gS (by omega) (Nat.le_trans HBB.out.size hb5.size), World.grownBy.refl _ _, kS, OSls.nil _ _, ⟨_, _, _, rfl⟩, by omega, Nat.le_refl _⟩)
    have c1 : (w5.setCell ⟨w.heap.size + 1, 1, none⟩ (.slice ca SL.length cc)).cell? ⟨g, 1, none⟩ = some (.int .i64 h) := by
      obtain ⟨_, _, _, k, _⟩ := HS0.out.rk
      exact k.cell 1
    generalize (w5.setCell ⟨w.heap.size + 1, 1, none⟩ (.slice ca SL.length cc)) = wx at *
    clear hx5 hb5 q1 f1 HSG HKR d0 d2
    go_wp2
    go_loopw [52] (fun l wr => ∃ (k : Nat) (pv : Value), l = .int .i64 k ∧ k ≤ h ∧ SgR w wx wr g n h w.heap.size (w.heap.size + 1) ix seed (.slice ca SL.length cc) SL k pv) (fun l _ => h - (intOf l).toNat)
    case atStart => exact ⟨0, _, rfl, by omega, HS0.out⟩
    case round =>
      clear HS0 c1
      obtain ⟨k, pv, rfl, hk, hS⟩ := hrel
      obtain ⟨pa, pc, rfl⟩ := hS.hO.val
      rw [pathI_len] at hS
      have q2 : wr.cell? ⟨w.heap.size + 1, 2, none⟩ = some (.slice pa k pc) := hS.kR.cell 2
      by_cases hlt : k < h
      · have hkI : (k : Int) < (h : Int) := by omega
        obtain ⟨b, off, vc, b2, off2, uc, xv, hgl, hbl, hb2l, c3, hcu, hcu2, hu2⟩ := hS.look hlt HLIM.out
        have HTL := Lib.hid (twin_lt HLIM.out hlt)
        have HLL := Lib.hid (lvI_len n seed h k)
        have HXS := Lib.hid (lvI_short n seed h k _ (getD_mem (l := lvI n seed h k) (k := twin (ix / 2 ^ k)) (by rw [HLL.out]; exact HTL.out)))
        have HPL := Lib.hid (show (pathI n seed h ix k).length + 1 ≤ 5000000000000 by rw [pathI_len]; omega)
        have HNX := Lib.hid (fun (wa wb : World) (pv v5 : Value) (s : SgR w wx wa g n h w.heap.size (w.heap.size + 1) ix seed (.slice ca SL.length cc) SL k pv) (hO : OSls wb wx.heap.size v5 (pathI n seed h ix k ++ [(lvI n seed h k).getD (twin (ix / 2 ^ k)) []])) (hb : Below wx.heap.size wa wb) (hg : wa.grownBy wb pv.ownBlock) => s.next hO hb hg)
        generalize (lvI (n : Int) seed h k).getD (twin (ix / 2 ^ k)) [] = X at *
        generalize hPI : pathI (n : Int) seed h ix k = PI at *
        have HPI := Lib.hid hPI
        have hPb : ix / 2 ^ k ≤ ix := Nat.div_le_self _ _
        have hsh : (ix : Int) / 2 ^ k = ((ix / 2 ^ k : Nat) : Int) := by rw [Int.natCast_ediv]; simp
        generalize ix / 2 ^ k = P at *
        have hxor : bits BinOp.xor IntKind.i64 (P : Int) 1 = ((twin P : Nat) : Int) := xor_one _ (by omega)
        generalize twin P = tw at *
        obtain ⟨M, hM⟩ : ∃ M : Nat, M = 2 ^ (h - k) := ⟨_, rfl⟩
        have htI : (tw : Int) < (M : Int) := by have := HTL.out; omega
        have htN : tw < M := by omega
        rw [← hM] at hcu
        have hkN : k < h + 1 := by omega
        have hkJ : (k : Int) < (h : Int) + 1 := by omega
        obtain ⟨xa, xn, xc, rfl⟩ := hu2.val
        have hbE : Below wr.heap.size wr (wr.alloc (.cells #[] 5)) := (Below.refl _ _).alloc (Nat.le_refl _) _
        have hown0 : (wr.alloc (.cells #[] 5)).ownsRow wr.heap.size 5 1 (.slice (some ⟨wr.heap.size, 0, none⟩) 0 0) 0 [] :=
          World.ownsRow_lit (base := wr.heap.size) (e := 5) (size := 1) wr #[] 0 (Nat.le_refl _) (by simp [maxLen]) (by simp)
        have hsE := hu2.below hbE (Nat.le_refl _)
        have HS := Lib.hid (fun w' (q : Below wr.heap.size wr w') => hS.below q)
        have HBE := Lib.hid hbE
        have HZ := Lib.hid hS.hbase
        have HF := Lib.hid (fun w' (q : Below wr.heap.size wr w') => show w'.cell? ⟨g, 3, none⟩ = some (.slice (some ⟨b, off, none⟩) (h + 1) vc) ∧ w'.cell? ⟨b, off + k, none⟩ = some (.slice (some ⟨b2, off2, none⟩) M uc) ∧ w'.cell? ⟨b2, off2 + tw, none⟩ = some (.slice xa xn xc) ∧ w'.cell? ⟨w.heap.size + 1, 2, none⟩ = some (.slice pa k pc) from ⟨(q.cell (p := ⟨g, 3, none⟩) (Nat.lt_of_lt_of_le hgl HZ.out)).trans c3, (q.cell (p := ⟨b, off + k, none⟩) (Nat.lt_of_lt_of_le hbl HZ.out)).trans hcu, (q.cell (p := ⟨b2, off2 + tw, none⟩) (Nat.lt_of_lt_of_le hb2l HZ.out)).trans hcu2, (HS.out _ q).kR.cell 2⟩)
        obtain ⟨d3, d4, d5, d2⟩ := HF.out _ HBE.out
        clear hS hu2 hPI hPb hM hbE hgl hbl hb2l
        go_wp2
        go_region_law (first
          | (refine step_append_textM rfl (.tmp 56) (.tmp 72) rfl wx.heap.size _ PI rfl hO6 w5.heap.size 1 rfl (.slice ya yn yc) hc6 X hx6 HPL.out hsz6 ?_; intro l7 w7 hO7 hb7 hg7; obtain ⟨a7, c7, rfl⟩ := hO7.val; have k7 := hS6.blk5 hg7; have q7 : w7.cell? ⟨w.heap.size + 1, 2, none⟩ = some (.slice pa k pc) := k7.cell 2; have f7 : w7.frozen? ⟨w.heap.size + 1, 2, none⟩ = false := k7.frozen 2)
          | (refine step_append_bytes rfl (.tmp 57) (.tmp 70) rfl wr.heap.size _ 0 [] rfl hown0 (.slice xa xn xc) X rfl hsE (by have := HXS.out; omega) (by simp) ?_; intro x5 w5 hown5 hg5; have hb5 := below_grown (w1 := (wr.alloc (.cells #[] 5)).drew) HBE.out.drew (show (wr.alloc (.cells #[] 5)).drew.ownsRow wr.heap.size 5 1 (.slice (some ⟨wr.heap.size, 0, none⟩) 0 0) 0 [] from hown0) (Nat.le_refl _) (by simp) (show (wr.alloc (.cells #[] 5)).drew.grownBy w5 (Value.slice (some ⟨wr.heap.size, 0, none⟩) 0 0).ownBlock from hg5); have hx5 : Sl w5 x5 (X.map (Value.int .u8)) := (by simpa using Sl.of_owns hown5); obtain ⟨ya, yn, yc, rfl⟩ := hx5.val; have q5 : w5.cell? ⟨w.heap.size + 1, 2, none⟩ = some (.slice pa k pc) := (HF.out _ hb5).2.2.2; have hbA : Below w5.heap.size w5 (w5.alloc (.cells #[.slice ya yn yc] 22)) := (Below.refl _ _).alloc (Nat.le_refl _) _; have hS6 := HS.out _ (hb5.trans (hbA.mono hb5.size)); have q6 : (w5.alloc (.cells #[.slice ya yn yc] 22)).cell? ⟨w.heap.size + 1, 2, none⟩ = some (.slice pa k pc) := hS6.kR.cell 2; have hO6 := hS6.hO; rw [HPI.out] at hO6; have hx6 := hx5.below hbA (Nat.le_refl _); have hc6 := (Blk.new w5 22 #[.slice ya yn yc]).cell 0; have hsz6 := hS6.hbase; clear hown5 hg5))
        all_goals
          have hS7 := HNX.out _ _ _ _ hS6 hO7 hb7 hg7
          rw [List.length_append, List.length_singleton] at hS7
          clear hO7 hb7 hg7 hS6 hO6 c3 hcu hcu2 q2 d2 d3 d4 d5 hx5 hx6 hc6 hb5 hbA
          go_wp2
          exact ⟨⟨k + 1, _, by go_num, by omega, hS7⟩, by simp [intOf]; omega⟩
      · obtain rfl : k = h := by omega
        have hkI : ¬ (k : Int) < (k : Int) := by omega
        obtain ⟨z0, z1, z2⟩ := rec3 hS.kR
        have kAR := hS.kAR
        obtain ⟨y0, y1, y2⟩ := rec3 kAR
        have y3 := kAR.frozen 0
        have y4 := kAR.frozen 1
        have y5 := kAR.frozen 2
        have HS := Lib.hid hS
        clear hS kAR
        go_wp2
        exact bodyPost_ret (v := .tuple #[.agg #[.int .i64 ix, .slice ca SL.length cc, .slice pa k pc], .int .i64 0]) (by rw [results_cell_tmp rfl]; go_simp) rfl ⟨_, _, rfl, by rw [HSL.out]; exact HS.out.told.1, HS.out.told.2⟩

end Go.Proofs.YtililoojjfcfgaaDoor

namespace Go.Proofs.YtililoojjfcfgaaDoor
open Go.RowKit
set_option linter.unusedVariables false

set_option maxHeartbeats 1000000 in
theorem refNew_no (size h : Int) (seed : List Int) (v : Value) (w : World) (hno : ¬ (canB size seed.length 0 = true ∧ 0 ≤ h ∧ h ≤ 8)) (hs : Sl w v (seed.map (Value.int .u8))) :
    Calls Tryd.prog 29 #[.int .i64 size, v, .int .i64 h] w fun e w' => e = .returned (.tuple #[.pointer none, .int .i64 1]) ∧ w = w' := by
  have HC := Lib.hid (refCan_any size v seed 0 w hs)
  obtain ⟨va, vn, vc, rfl⟩ := hs.val
  clear hs
  by_cases hc : canB size seed.length 0 = true
  · rw [hc] at HC
    by_cases h0 : h < 0
    · clear hno hc
      go_enter Tryd.func29, Tryd.ntmps29
      go_wp2_with fail
      refine HC.out.mono ?_
      rintro e w1 ⟨rfl, rfl⟩
      go_wp2
      go_ret2
      exact ⟨rfl, rfl⟩
    · have h8 : 8 < h := by
        rcases Int.lt_or_le 8 h with q | q
        · exact q
        · exact absurd ⟨hc, by omega, q⟩ hno
      clear hno hc
      go_enter Tryd.func29, Tryd.ntmps29
      go_wp2_with fail
      refine HC.out.mono ?_
      rintro e w1 ⟨rfl, rfl⟩
      go_wp2
      go_ret2
      exact ⟨rfl, rfl⟩
  · rw [Bool.not_eq_true] at hc
    rw [hc] at HC
    clear hno hc
    go_enter Tryd.func29, Tryd.ntmps29
    go_wp2_with fail
    refine HC.out.mono ?_
    rintro e w1 ⟨rfl, rfl⟩
    go_wp2
    go_ret2
    exact ⟨rfl, rfl⟩

theorem umod (x m : Int) (h0 : 0 < m) (h1 : m ≤ 1000) : 0 ≤ wrap64 ((IntKind.u64.wrap x).tmod m) ∧ wrap64 ((IntKind.u64.wrap x).tmod m) < m := by
  rw [IntKind.wrap_u64]
  have e : 0 ≤ x % 18446744073709551616 := Int.emod_nonneg _ (by decide)
  rw [Int.tmod_eq_emod_of_nonneg e]
  have e1 := Int.emod_nonneg (x % 18446744073709551616) (show m ≠ 0 by omega)
  have e2 := Int.emod_lt_of_pos (x % 18446744073709551616) h0
  unfold wrap64
  omega
theorem umod9 (x : Int) : 33 ≤ wrap64 (33 + wrap64 ((IntKind.u64.wrap x).tmod 9)) := by
  have := umod x 9 (by decide) (by decide)
  generalize wrap64 ((IntKind.u64.wrap x).tmod 9) = y at *
  unfold wrap64
  omega

set_option maxRecDepth 100000 in
set_option maxHeartbeats 2000000 in
theorem mtsNew_walk (size : Int) (v : Value) (seed : List Int) (h : Int) (w : World) (ht : Tabs w) (hz0 : -9223372036854775808 ≤ size) (hz1 : size ≤ 9223372036854775807) (hB : IsB seed) (hs : Sl w v (seed.map (Value.int .u8))) (hl : seed.length ≤ 140737488351232) (hh0 : -9223372036854775808 ≤ h) (hh1 : h ≤ 9223372036854775807) :
    Calls Tryd.prog 5 #[.int .i64 size, v, .int .i64 h] w fun e w' => e = .returned (.bool true) ∧ Below w.heap.size w w' := by
  have HA := Lib.hid (awake06_any w ht)
  have H1 := Lib.hid (fun h' (q : h' < 0 ∨ 8 < h') => mnew_no size h' seed v w (by omega) hs)
  have H3 := Lib.hid (fun h' (q : h' < 0 ∨ 8 < h') => refNew_no size h' seed v w (by omega) hs)
  have H2 := Lib.hid (fun s' (q : 33 ≤ s') => mnew_no s' 1 [] (.slice none 0 0) w (by omega) (Sl.nil _))
  obtain ⟨va, vn, vc, rfl⟩ := hs.val
  clear hs ht hB hl
  by_cases ha : 0 ≤ h
  · by_cases hb : h ≤ 8
    · have hq : IntKind.i64.wrap (-1 - h) = -1 - h := by rw [IntKind.wrap_i64]; omega
      go_enter Tryd.func5, Tryd.ntmps5
      go_wp2_with fail
      refine (H1.out _ (by omega)).mono ?_
      rintro e w1 ⟨rfl, rfl⟩
      go_wp2_with fail
      refine (H2.out _ ?_).mono ?_
      · exact umod9 _
      rintro e w1 ⟨rfl, rfl⟩
      go_wp2_with fail
      refine (H3.out _ (by omega)).mono ?_
      rintro e w1 ⟨rfl, rfl⟩
      go_wp2_with fail
      refine HA.out.mono ?_
      rintro e w2 ⟨rfl, hb2⟩
      go_wp2
      go_ret
      exact ⟨rfl, hb2⟩
    · skip
      go_enter Tryd.func5, Tryd.ntmps5
      go_wp2_with fail
      refine (H1.out _ (by omega)).mono ?_
      rintro e w1 ⟨rfl, rfl⟩
      go_wp2_with fail
      refine (H2.out _ ?_).mono ?_
      · exact umod9 _
      rintro e w1 ⟨rfl, rfl⟩
      go_wp2_with fail
      refine (H3.out _ (by omega)).mono ?_
      rintro e w1 ⟨rfl, rfl⟩
      go_wp2_with fail
      refine HA.out.mono ?_
      rintro e w2 ⟨rfl, hb2⟩
      go_wp2
      go_ret
      exact ⟨rfl, hb2⟩
  · skip
    go_enter Tryd.func5, Tryd.ntmps5
    go_wp2_with fail
    refine (H1.out _ (by omega)).mono ?_
    rintro e w1 ⟨rfl, rfl⟩
    go_wp2_with fail
    refine (H2.out _ ?_).mono ?_
    · exact umod9 _
    rintro e w1 ⟨rfl, rfl⟩
    go_wp2_with fail
    refine (H3.out _ (by omega)).mono ?_
    rintro e w1 ⟨rfl, rfl⟩
    go_wp2_with fail
    refine HA.out.mono ?_
    rintro e w2 ⟨rfl, hb2⟩
    go_wp2
    go_ret
    exact ⟨rfl, hb2⟩

end Go.Proofs.YtililoojjfcfgaaDoor
