/- Signatures: Same of the reference, of two of one content. Trees of signing keys: the law's keys; Sign's of both in one word; the walk of the law MtsKeys. -/
import Derived.Test.YtililoojjfcfgaaDoorSig1
import Derived.Test.YtililoojjfcfgaaDoorBytes
import Derived.Deep.QuietTactic
import Derived.BigQuiet
import Derived.Deep.Cut
import Derived.Test.YtililoojjfcfgaaDoorMtsQ2
import Derived.Test.YtililoojjfcfgaaDoorMtsQ1
import Derived.Test.YtililoojjfcfgaaDoorMtsQ3
namespace Go.Proofs.YtililoojjfcfgaaDoor
open Go.RowKit
set_option linter.unusedVariables false

theorem Sl.convS {w : World} {v : Value} {xs : List Int} (h : Sl w v (xs.map (Value.int .u8))) : ∀ n, (convert 22 9 v).run Tryd.prog (w.drewN n) = .ok (.string (strOfNums xs)) (w.drewN n) :=
  fun n => (h.below (below_drewN (Below.refl w.heap.size w) n) (Nat.le_refl _)).conv

set_option maxRecDepth 100000 in
set_option maxHeartbeats 2000000 in
theorem ssame_any (v1 v2 : Value) (idx : Int) (parts path : List (List Int)) (w : World) (h1 : SigV w v1 idx parts path) (h2 : SigV w v2 idx parts path) :
    Calls Tryd.prog 36 #[v1, v2] w fun e w' => e = .returned (.bool true) ∧ Below w.heap.size w w' := by
  obtain ⟨p1, q1, r1, s1, rfl⟩ := h1.val
  obtain ⟨p2, q2, r2, s2, rfl⟩ := h2.val
  obtain ⟨g1, g2⟩ := h1.parts
  obtain ⟨g3, g4⟩ := h2.parts
  have hb2 : Below w.heap.size w ((w.alloc (.cells #[.int .i64 idx, .slice p1 parts.length q1, .slice r1 path.length s1] 61)).alloc (.cells #[.int .i64 idx, .slice p2 parts.length q2, .slice r2 path.length s2] 61)) := ((Below.refl _ _).alloc (Nat.le_refl _) _).alloc (by simp) _
  have b1 : Blk ((w.alloc (.cells #[.int .i64 idx, .slice p1 parts.length q1, .slice r1 path.length s1] 61)).alloc (.cells #[.int .i64 idx, .slice p2 parts.length q2, .slice r2 path.length s2] 61)) w.heap.size 61 #[.int .i64 idx, .slice p1 parts.length q1, .slice r1 path.length s1] := (Blk.new w _ _).alloc _
  have b2 : Blk ((w.alloc (.cells #[.int .i64 idx, .slice p1 parts.length q1, .slice r1 path.length s1] 61)).alloc (.cells #[.int .i64 idx, .slice p2 parts.length q2, .slice r2 path.length s2] 61)) (w.heap.size + 1) 61 #[.int .i64 idx, .slice p2 parts.length q2, .slice r2 path.length s2] := by
    have := Blk.new (w.alloc (.cells #[.int .i64 idx, .slice p1 parts.length q1, .slice r1 path.length s1] 61)) 61 #[.int .i64 idx, .slice p2 parts.length q2, .slice r2 path.length s2]
    simpa using this
  have hpl : parts.length ≤ 9223372036854775807 := by obtain ⟨_, _, _, h3, h4⟩ := g1.shape; exact Nat.le_trans h3 h4
  have hql : path.length ≤ 9223372036854775807 := by obtain ⟨_, _, _, h3, h4⟩ := g2.shape; exact Nat.le_trans h3 h4
  have HG1 := Lib.hid (g1.below hb2 (Nat.le_refl _))
  have HG2 := Lib.hid (g2.below hb2 (Nat.le_refl _))
  have HG3 := Lib.hid (g3.below hb2 (Nat.le_refl _))
  have HG4 := Lib.hid (g4.below hb2 (Nat.le_refl _))
  have HB1 := Lib.hid b1
  have HB2 := Lib.hid b2
  have HBB := Lib.hid hb2
  clear h1 h2 g1 g2 g3 g4 b1 b2 hb2
  go_enter Tryd.func36, Tryd.ntmps36
  go_upto_region 1 with (fail)
  generalize ((w.alloc (.cells #[.int .i64 idx, .slice p1 parts.length q1, .slice r1 path.length s1] 61)).alloc (.cells #[.int .i64 idx, .slice p2 parts.length q2, .slice r2 path.length s2] 61)) = W at *
  obtain ⟨c0, c1, c2⟩ := rec3 HB1.out
  obtain ⟨e0, e1, e2⟩ := rec3 HB2.out
  have HST := Lib.hid (Below.refl W.heap.size W)
  go_wp2
  go_loopw [33] (fun i wr => ∃ k : Nat, k ≤ parts.length ∧ i = .int .i64 k ∧ Below W.heap.size W wr) (fun i _ => parts.length - (intOf i).toNat)
  case atStart => exact ⟨0, by omega, rfl, HST.out⟩
  case round =>
    clear c0 c1 c2 e0 e1 e2
    obtain ⟨k, hk, rfl, hbr⟩ := hrel
    by_cases hlt : k < parts.length
    · obtain ⟨b1, o1, rfl, hb1, u1, k1, t1⟩ := (HG1.out.below hbr (Nat.le_refl _)).at hlt
      obtain ⟨b2, o2, rfl, hb2, u2, k2, t2⟩ := (HG3.out.below hbr (Nat.le_refl _)).at hlt
      have hkI : (k : Int) < (parts.length : Int) := by omega
      have c9 := (rec3 (HB1.out.belowS hbr)).2.1
      have e9 := (rec3 (HB2.out.belowS hbr)).2.1
      have HBR := Lib.hid hbr
      generalize parts.getD k [] = P at *
      have cv1 := t1.convS
      have cv2 := t2.convS
      obtain ⟨xa, xn, xc, rfl⟩ := t1.val
      obtain ⟨ya, yn, yc, rfl⟩ := t2.val
      clear t1 t2 hbr
      go_wp2
      go_quiet (fail)
      have hbr := below_drewN HBR.out nq
      generalize wr.drewN nq = w2 at *
      go_wp2
      go_roundw
      case rel => exact ⟨k + 1, by omega, by go_num, hbr⟩
      case measure => simp [intOf]; omega
    · have hkI : ¬ (k : Int) < (parts.length : Int) := by omega
      generalize wr = wz at *
      obtain ⟨c0, c1, c2⟩ := rec3 (HB1.out.belowS hbr)
      obtain ⟨e0, e1, e2⟩ := rec3 (HB2.out.belowS hbr)
      have HST := Lib.hid hbr
      clear hbr hk hlt
      go_wp2
      go_loopw [53] (fun i wr => ∃ k : Nat, k ≤ path.length ∧ i = .int .i64 k ∧ Below W.heap.size W wr) (fun i _ => path.length - (intOf i).toNat)
      case atStart => exact ⟨0, by omega, rfl, HST.out⟩
      case round =>
        clear c0 c1 c2 e0 e1 e2
        obtain ⟨m, hk, rfl, hbr⟩ := hrel
        by_cases hlt : m < path.length
        · obtain ⟨b1, o1, rfl, hb1, u1, k1, t1⟩ := (HG2.out.below hbr (Nat.le_refl _)).at hlt
          obtain ⟨b2, o2, rfl, hb2, u2, k2, t2⟩ := (HG4.out.below hbr (Nat.le_refl _)).at hlt
          have hkI : (m : Int) < (path.length : Int) := by omega
          have c9 := (rec3 (HB1.out.belowS hbr)).2.2
          have e9 := (rec3 (HB2.out.belowS hbr)).2.2
          have HBR := Lib.hid hbr
          generalize path.getD m [] = P at *
          have cv1 := t1.convS
          have cv2 := t2.convS
          obtain ⟨xa, xn, xc, rfl⟩ := t1.val
          obtain ⟨ya, yn, yc, rfl⟩ := t2.val
          clear t1 t2 hbr
          go_wp2
          go_quiet (fail)
          have hbr := below_drewN HBR.out nq
          generalize wr.drewN nq = w2 at *
          go_wp2
          go_roundw
          case rel => exact ⟨m + 1, by omega, by go_num, hbr⟩
          case measure => simp [intOf]; omega
        · have hkI2 : ¬ (m : Int) < (path.length : Int) := by omega
          have hbb := below_trans2 HBB.out hbr
          clear hbr
          go_wp2
          go_ret
          exact ⟨rfl, hbb⟩

end Go.Proofs.YtililoojjfcfgaaDoor

namespace Go.Proofs.YtililoojjfcfgaaDoor
open Go.RowKit
set_option linter.unusedVariables false

theorem RK.keepG {w w' : World} {g g1 n h : Nat} {seed : List Int} {cs : Array Value} (k : RK w g n h seed) (kg : Blk w g1 82 cs) (hcs : ∀ (j : Nat) (x : Int), cs[j]? ≠ some (.int .u8 x)) (hg : w.grownBy w' (some g1)) : RK w' g n h seed := by
  obtain ⟨sv, lv, h1, h2, h3⟩ := k
  have hne : some g ≠ some g1 := fun e => Blk.ne_ h2 kg (by decide) (by simpa using e)
  exact ⟨sv, lv, h1.keepG kg hcs hg, h2.grown hg hne, h3.keepGk kg (by decide) (by decide) hcs hg⟩

/-- May this number and this digest be signed? -/
def kOk (n h : Nat) (idx : Int) (dg : List Int) : Bool := decide (0 ≤ idx ∧ idx < 2 ^ h ∧ dg.length = n)
def kIx (n h : Nat) (idx : Int) (dg : List Int) : Int := if kOk n h idx dg = true then idx else 0
def kE (n h : Nat) (idx : Int) (dg : List Int) : Int := if kOk n h idx dg = true then 0 else 1
def kC (n h : Nat) (seed : List Int) (idx : Int) (dg : List Int) : List (List Int) := if kOk n h idx dg = true then signL n seed idx dg else []
def kP (n h : Nat) (seed : List Int) (idx : Int) (dg : List Int) : List (List Int) := if kOk n h idx dg = true then pathI n seed h idx.toNat h else []

theorem kOk_no {n h : Nat} {idx : Int} {dg : List Int} (hk : ¬ kOk n h idx dg = true) : idx < 0 ∨ 2 ^ h ≤ idx ∨ dg.length ≠ n := by
  unfold kOk at hk
  rw [decide_eq_true_eq] at hk
  rcases Int.lt_or_le idx 0 with h1 | h1
  · exact .inl h1
  · rcases Int.lt_or_le idx (2 ^ h) with h2 | h2
    · exact .inr (.inr fun e => hk ⟨h1, h2, e⟩)
    · exact .inr (.inl h2)
theorem kOk_yes {n h : Nat} {idx : Int} {dg : List Int} (hk : kOk n h idx dg = true) : ∃ ix : Nat, idx = ix ∧ ix < 2 ^ h ∧ dg.length = n := by
  unfold kOk at hk
  rw [decide_eq_true_eq] at hk
  obtain ⟨h1, h2, h3⟩ := hk
  obtain ⟨ix, rfl⟩ := Int.eq_ofNat_of_zero_le h1
  exact ⟨ix, rfl, by exact_mod_cast h2, h3⟩

theorem msign_all (n h g : Nat) (idx : Int) (seed : List Int) (vd : Value) (dg : List Int) (w : World) (hn0 : 1 ≤ n) (hn : n ≤ 32) (hh : h ≤ 8) (hsl : seed.length ≤ 64) (hB : IsB seed) (hk : MK w g n h seed) (ht : Tabs w) (hBd : IsB dg) (hd : Sl w vd (dg.map (Value.int .u8))) :
    Calls Tryd.prog 37 #[.pointer (some ⟨g, 0, none⟩), .int .i64 idx, vd] w fun e w' => ∃ cv pv, e = .returned (.tuple #[.agg #[.int .i64 (kIx n h idx dg), cv, pv], .int .i64 (kE n h idx dg)]) ∧ OSls w' 0 cv (kC n h seed idx dg) ∧ OSls w' 0 pv (kP n h seed idx dg) ∧ MK w' g n h seed ∧ w.grownBy w' (some g) := by
  by_cases hok : kOk n h idx dg = true
  · obtain ⟨ix, rfl, hi, hl⟩ := kOk_yes hok
    refine (msign_ok n h g ix seed vd dg w hn0 hn hh hsl hB hk ht hi hBd hd hl).mono ?_
    rintro e w' ⟨cv, pv, rfl, h1, h2, h3, h4⟩
    refine ⟨cv, pv, ?_, ?_, ?_, h3, h4⟩
    · unfold kIx kE; rw [if_pos hok, if_pos hok]
    · unfold kC; rw [if_pos hok]; exact h1
    · unfold kP; rw [if_pos hok]; exact h2
  · have e1 : kIx n h idx dg = 0 := if_neg hok
    have e2 : kE n h idx dg = 1 := if_neg hok
    have e3 : kC n h seed idx dg = [] := if_neg hok
    have e4 : kP n h seed idx dg = [] := if_neg hok
    rw [e1, e2, e3, e4]
    have close : ∀ w', Below w.heap.size w w' → ∃ cv pv, Ending.returned (.tuple #[.agg #[.int .i64 0, .slice none 0 0, .slice none 0 0], .int .i64 1]) = .returned (.tuple #[.agg #[.int .i64 0, cv, pv], .int .i64 1]) ∧ OSls w' 0 cv [] ∧ OSls w' 0 pv [] ∧ MK w' g n h seed ∧ w.grownBy w' (some g) :=
      fun w' hb => ⟨_, _, rfl, OSls.nil _ _, OSls.nil _ _, hk.below hb, only_of_below hb _⟩
    by_cases hx : idx < 0 ∨ 2 ^ h ≤ idx
    · refine (msign_idx n h g idx seed vd w hn0 hh hk hx).mono ?_
      rintro e w' ⟨rfl, hb⟩
      exact close w' hb
    · have hno := kOk_no hok
      obtain ⟨ix, rfl⟩ := Int.eq_ofNat_of_zero_le (show 0 ≤ idx by omega)
      have hi : ix < 2 ^ h := by
        have : (ix : Int) < 2 ^ h := by omega
        exact_mod_cast this
      refine (msign_len n h g ix seed vd dg w hn0 hh hB hk ht hi hBd hd (by omega)).mono ?_
      rintro e w' ⟨rfl, hb⟩
      exact close w' hb

theorem refMsign_all (n h g : Nat) (idx : Int) (seed : List Int) (vd : Value) (dg : List Int) (w : World) (hn0 : 1 ≤ n) (hn : n ≤ 32) (hh : h ≤ 8) (hsl : seed.length ≤ 64) (hB : IsB seed) (hk : RK w g n h seed) (hBd : IsB dg) (hd : Sl w vd (dg.map (Value.int .u8))) :
    Calls Tryd.prog 47 #[.pointer (some ⟨g, 0, none⟩), .int .i64 idx, vd] w fun e w' => ∃ cv pv, e = .returned (.tuple #[.agg #[.int .i64 (kIx n h idx dg), cv, pv], .int .i64 (kE n h idx dg)]) ∧ OSls w' 0 cv (kC n h seed idx dg) ∧ OSls w' 0 pv (kP n h seed idx dg) ∧ Below w.heap.size w w' := by
  by_cases hok : kOk n h idx dg = true
  · obtain ⟨ix, rfl, hi, hl⟩ := kOk_yes hok
    refine (refMsign_ok n h g ix seed vd dg w hn0 hn hh hsl hB hk hi hBd hd hl).mono ?_
    rintro e w' ⟨cv, pv, rfl, h1, h2, h3⟩
    refine ⟨cv, pv, ?_, ?_, ?_, h3⟩
    · unfold kIx kE; rw [if_pos hok, if_pos hok]
    · unfold kC; rw [if_pos hok]; exact h1
    · unfold kP; rw [if_pos hok]; exact h2
  · have e1 : kIx n h idx dg = 0 := if_neg hok
    have e2 : kE n h idx dg = 1 := if_neg hok
    have e3 : kC n h seed idx dg = [] := if_neg hok
    have e4 : kP n h seed idx dg = [] := if_neg hok
    rw [e1, e2, e3, e4]
    refine (refMsign_no n h g idx seed vd dg w hh hk hd (kOk_no hok)).mono ?_
    rintro e w' ⟨rfl, hb⟩
    exact ⟨_, _, rfl, OSls.nil _ _, OSls.nil _ _, hb⟩

/-- The law's keys: the program's and the document's. -/
def KeysP (w : World) (seed : List Int) (e : Ending) (w' : World) : Prop := ∃ n h g1 g2 : Nat, 1 ≤ n ∧ n ≤ 4 ∧ h ≤ 3 ∧ e = .returned (.tuple #[.pointer (some ⟨g1, 0, none⟩), .pointer (some ⟨g2, 0, none⟩), .bool true]) ∧ MK w' g1 n h seed ∧ RK w' g2 n h seed ∧ w.heap.size ≤ g1 ∧ w.heap.size ≤ g2 ∧ Below w.heap.size w w'

set_option maxRecDepth 100000 in
set_option maxHeartbeats 2000000 in
theorem keys_ok (size : Int) (v : Value) (seed : List Int) (height : Int) (w : World) (hz0 : -9223372036854775808 ≤ size) (hz1 : size ≤ 9223372036854775807) (hB : IsB seed) (hs : Sl w v (seed.map (Value.int .u8))) (hl : seed.length ≤ 64)
    (hh0 : -9223372036854775808 ≤ height) (hh1 : height ≤ 9223372036854775807) :
    Calls Tryd.prog 46 #[.int .i64 size, v, .int .i64 height] w (KeysP w seed) := by
  have h1 := u64_rem size 4 (by omega) (by omega)
  generalize hL : wrap64 ((IntKind.u64.wrap size).tmod 4) = L at h1
  obtain ⟨n, rfl⟩ : ∃ n : Nat, L = n := ⟨L.toNat, by omega⟩
  have h2 := u64_rem height 4 (by omega) (by omega)
  generalize hM : wrap64 ((IntKind.u64.wrap height).tmod 4) = M at h2
  obtain ⟨h, rfl⟩ : ∃ m : Nat, M = m := ⟨M.toNat, by omega⟩
  have HN := Lib.hid (mnew_ok (1 + n) h seed v w (by omega) (by omega) (by omega) hl hs)
  have HR := Lib.hid (fun w' (q : Below w.heap.size w w') => refNew_ok (1 + n) h seed v w' (by omega) (by omega) (by omega) hl hB (hs.below q (Nat.le_refl _)))
  rw [show ((1 + n : Nat) : Int) = 1 + (n : Int) by omega] at HN HR
  obtain ⟨va, vn, vc, rfl⟩ := hs.val
  clear hs
  go_enter Tryd.func46, Tryd.ntmps46
  go_wp2_with fail
  refine HN.out.mono ?_
  rintro e w1 ⟨g1, rfl, hg1, hm, hb1⟩
  go_wp2_with fail
  refine (HR.out _ hb1).mono ?_
  rintro e w2 ⟨g2, rfl, hg2, hr, hb2⟩
  have hm2 := hm.below hb2
  have hb := below_trans2 hb1 hb2
  have hg2' := Nat.le_trans hb1.size hg2
  clear hL hM hm hb1 hb2
  go_wp2
  go_ret3
  exact ⟨1 + n, h, g1, g2, by omega, by omega, by omega, rfl, hm2, hr, hg1, hg2', hb⟩

set_option maxRecDepth 100000 in
set_option maxHeartbeats 2000000 in
theorem keys_no (size : Int) (v : Value) (seed : List Int) (height : Int) (w : World) (hs : Sl w v (seed.map (Value.int .u8))) (hl : 64 < seed.length) :
    Calls Tryd.prog 46 #[.int .i64 size, v, .int .i64 height] w fun e w' => e = .returned (.tuple #[.pointer none, .pointer none, .bool true]) ∧ w = w' := by
  have HN := Lib.hid (fun s h => mnew_no s h seed v w (by omega) hs)
  have HR := Lib.hid (fun s h => refNew_no s h seed v w (by intro q; have := q.1; unfold canB at this; have := of_decide_eq_true this; omega) hs)
  obtain ⟨va, vn, vc, rfl⟩ := hs.val
  clear hs
  go_enter Tryd.func46, Tryd.ntmps46
  go_wp2_with fail
  refine (HN.out _ _).mono ?_
  rintro e w1 ⟨rfl, rfl⟩
  go_wp2_with fail
  refine (HR.out _ _).mono ?_
  rintro e w2 ⟨rfl, rfl⟩
  go_wp2
  go_ret3
  exact ⟨rfl, rfl⟩

/-- What stands behind both Signs. -/
structure KS (W w : World) (g1 g2 n h : Nat) (seed : List Int) (ix : Int) (C P : List (List Int)) (A B : Nat) (c1 p1 c2 p2 : Value) : Prop where
  mm : MK w g1 n h seed
  rk : RK w g2 n h seed
  hc1 : OSls w 0 c1 C
  hp1 : OSls w 0 p1 P
  hc2 : OSls w 0 c2 C
  hp2 : OSls w 0 p2 P
  kA : Blk w A 61 #[.int .i64 ix, c1, p1]
  kB : Blk w B 61 #[.int .i64 ix, c2, p2]
  hw : Below W.heap.size W w
  hg : W.heap.size ≤ g1
section
variable {W w w2 : World} {g1 g2 n h A B : Nat} {seed : List Int} {ix : Int} {C P : List (List Int)} {c1 p1 c2 p2 : Value}
theorem KS.below (s : KS W w g1 g2 n h seed ix C P A B c1 p1 c2 p2) (hb : Below w.heap.size w w2) : KS W w2 g1 g2 n h seed ix C P A B c1 p1 c2 p2 :=
  ⟨s.mm.below hb, s.rk.below hb, OSls.below s.hc1 hb, OSls.below s.hp1 hb, OSls.below s.hc2 hb, OSls.below s.hp2 hb, s.kA.belowS hb, s.kB.belowS hb, s.hw.trans (hb.mono s.hw.size), s.hg⟩
theorem KS.keys (s : KS W w g1 g2 n h seed ix C P A B c1 p1 c2 p2) (m : MKB w2 g1 n h seed) (hg : w.grownBy w2 (some g1)) : KS W w2 g1 g2 n h seed ix C P A B c1 p1 c2 p2 := by
  obtain ⟨sv, d, lv, q1, q2, _, kg⟩ := s.mm.blk
  have hnb := keys_noB (n := n) (h := h) (d := d) (m := 0) q1 q2
  have neA : some A ≠ some g1 := fun e => Blk.ne_ s.kA kg (by decide) (by simpa using e)
  have neB : some B ≠ some g1 := fun e => Blk.ne_ s.kB kg (by decide) (by simpa using e)
  exact ⟨.inl m, s.rk.keepG kg hnb hg, OSls.keepM s.hc1 kg (by decide) hnb hg, OSls.keepM s.hp1 kg (by decide) hnb hg, OSls.keepM s.hc2 kg (by decide) hnb hg, OSls.keepM s.hp2 kg (by decide) hnb hg, s.kA.grown hg neA, s.kB.grown hg neB, below_of_only s.hw hg s.hg s.hw.size, s.hg⟩
end

set_option maxRecDepth 100000 in
set_option maxHeartbeats 4000000 in
theorem mtsKeys_walk (size : Int) (v : Value) (seed : List Int) (height index : Int) (vd : Value) (dg : List Int) (w : World) (ht : Tabs w) (hz0 : -9223372036854775808 ≤ size) (hz1 : size ≤ 9223372036854775807) (hB : IsB seed) (hs : Sl w v (seed.map (Value.int .u8))) (hns : seed.length ≤ 140737488351232)
    (hh0 : -9223372036854775808 ≤ height) (hh1 : height ≤ 9223372036854775807) (hx0 : -9223372036854775808 ≤ index) (hx1 : index ≤ 9223372036854775807) (hBd : IsB dg) (hd : Sl w vd (dg.map (Value.int .u8))) (hnd : dg.length ≤ 140737488351232) :
    Calls Tryd.prog 10 #[.int .i64 size, v, .int .i64 height, .int .i64 index, vd] w fun e w' => e = .returned (.bool true) ∧ Below w.heap.size w w' := by
  have HTT := Lib.hid ht
  have HAW := Lib.hid (fun w' (q : Below w.heap.size w w') => awake06_any w' (ht.below q))
  by_cases hl : seed.length ≤ 64
  · have HK := Lib.hid (keys_ok size v seed height w hz0 hz1 hB hs hl hh0 hh1)
    obtain ⟨va, vn, vc, rfl⟩ := hs.val
    obtain ⟨da, dn, dc, rfl⟩ := hd.val
    have HD := Lib.hid hd
    have HL := Lib.hid hl
    clear hs hd ht hns hnd hl
    go_enter Tryd.func10, Tryd.ntmps10
    go_wp2_with fail
    refine HK.out.mono ?_
    rintro e w1 ⟨n, h, g1, g2, hn0, hn4, hh3, rfl, hm, hr, hg1, hg2, hb1⟩
    have HSG := Lib.hid (msign_all n h g1 index seed _ dg w1 hn0 (by omega) (by omega) HL.out hB hm (HTT.out.below hb1) hBd (HD.out.below hb1 (Nat.le_refl _)))
    go_wp2_with fail
    refine HSG.out.mono ?_
    rintro e w2 ⟨c1, p1, rfl, hc1, hp1, hm2, hg2'⟩
    obtain ⟨sv1, d1, lv1, q1, q2, _, kg⟩ := hm.blk
    have hnb := keys_noB (n := n) (h := h) (d := d1) (m := 0) q1 q2
    have hr2 := hr.keepG kg hnb hg2'
    have hd2 := (HD.out.below hb1 (Nat.le_refl _)).keepG kg hnb hg2'
    have hw2 := below_of_only hb1 hg2' hg1 hb1.size
    obtain ⟨c1a, c1c, rfl⟩ := hc1.val
    obtain ⟨p1a, p1c, rfl⟩ := hp1.val
    have HIX := Lib.hid (rfl : kIx n h index dg = kIx n h index dg)
    have HRS := Lib.hid (fun w' (q1 : RK w' g2 n h seed) (q2 : Sl w' (.slice da dn dc) (dg.map (Value.int .u8))) => refMsign_all n h g2 index seed _ dg w' hn0 (by omega) (by omega) HL.out hB q1 hBd q2)
    generalize hC : kC n h seed index dg = C at *
    generalize hP : kP n h seed index dg = P at *
    generalize hX : kIx n h index dg = X at *
    generalize hE : kE n h index dg = E at *
    have hbA : Below w2.heap.size w2 (w2.alloc (.cells #[.int .i64 X, .slice c1a C.length c1c, .slice p1a P.length p1c] 61)) := (Below.refl _ _).alloc (Nat.le_refl _) _
    have kA := Blk.new w2 61 #[.int .i64 X, .slice c1a C.length c1c, .slice p1a P.length p1c]
    have hmA := hm2.below hbA
    have hrA := hr2.below hbA
    have hdA := hd2.below hbA (Nat.le_refl _)
    have hcA := OSls.below hc1 hbA
    have hpA := OSls.below hp1 hbA
    have hwA := hw2.trans (hbA.mono hw2.size)
    clear hC hP hX hE HIX HSG HK hm hr hg2' hm2 hr2 hd2 hw2 hbA hc1 hp1 kg hnb
    go_wp2_with fail
    generalize (w2.alloc (.cells #[.int .i64 X, .slice c1a C.length c1c, .slice p1a P.length p1c] 61)) = w3 at *
    refine (HRS.out _ hrA hdA).mono ?_
    rintro e w4 ⟨c2, p2, rfl, hc2, hp2, hb4⟩
    obtain ⟨c2a, c2c, rfl⟩ := hc2.val
    obtain ⟨p2a, p2c, rfl⟩ := hp2.val
    have hbB : Below w4.heap.size w4 (w4.alloc (.cells #[.int .i64 X, .slice c2a C.length c2c, .slice p2a P.length p2c] 61)) := (Below.refl _ _).alloc (Nat.le_refl _) _
    have kB := Blk.new w4 61 #[.int .i64 X, .slice c2a C.length c2c, .slice p2a P.length p2c]
    have hbb := below_trans2 hb4 hbB
    have HS := Lib.hid (show KS w (w4.alloc (.cells #[.int .i64 X, .slice c2a C.length c2c, .slice p2a P.length p2c] 61)) g1 g2 n h seed X C P w2.heap.size w4.heap.size _ _ _ _ from ⟨hmA.below hbb, hrA.below hbb, OSls.below hcA hbb, OSls.below hpA hbb, OSls.below hc2 hbB, OSls.below hp2 hbB, kA.belowS hbb, kB, hwA.trans (hbb.mono hwA.size), hg1⟩)
    clear hmA hrA hdA hcA hpA hwA kA kB hbb hb4 hbB hc2 hp2 HRS
    go_wp2_with fail
    generalize (w4.alloc (.cells #[.int .i64 X, .slice c2a C.length c2c, .slice p2a P.length p2c] 61)) = w5 at *
    refine (public_any n h g1 seed w5 hn0 (by omega) (by omega) hB HS.out.mm (HTT.out.below HS.out.hw)).mono ?_
    rintro e w6 ⟨x6, rfl, hx6, hm6, hg6⟩
    obtain ⟨x6a, x6n, x6c, rfl⟩ := hx6.val
    have HS6 := Lib.hid (HS.out.keys hm6 hg6)
    clear HS
    go_wp2_with fail
    refine (refPublic_any n h g2 seed w6 HS6.out.rk).mono ?_
    rintro e w7 ⟨x7, rfl, hx7, hb7⟩
    obtain ⟨x7a, x7n, x7c, rfl⟩ := hx7.val
    have hx67 := hx6.below hb7 (Nat.le_refl _)
    have HS7 := Lib.hid (HS6.out.below hb7)
    have HRB := Lib.hid (show IsB ((lvI (n : Int) seed h h).getD 0 []) from lvI_isB _ _ _ _ _ (getD_mem (by rw [lvI_len]; exact Nat.two_pow_pos _)))
    have HEQ := Lib.hid (bytesEq_any _ _ _ _ w7 hx67 hx7 HRB.out HRB.out)
    rw [decide_eq_true rfl] at HEQ
    clear HS6 hx6 hx7 hx67 hb7 hm6 hg6
    go_wp2_with fail
    refine HEQ.out.mono ?_
    rintro e w8 ⟨rfl, rfl⟩
    obtain ⟨z0, z1, z2⟩ := rec3 HS7.out.kA
    obtain ⟨y0, y1, y2⟩ := rec3 HS7.out.kB
    have HSM := Lib.hid (ssame_any _ _ X C P w7 ⟨_, _, rfl, HS7.out.hc1.sls, HS7.out.hp1.sls⟩ ⟨_, _, rfl, HS7.out.hc2.sls, HS7.out.hp2.sls⟩)
    clear HEQ HRB
    go_wp2_with fail
    refine HSM.out.mono ?_
    rintro e w9 ⟨rfl, hb9⟩
    have hw9 := HS7.out.hw.trans (hb9.mono HS7.out.hw.size)
    clear z0 z1 z2 y0 y1 y2 HSM
    go_wp2_with fail
    refine (HAW.out _ hw9).mono ?_
    rintro e w10 ⟨rfl, hb10⟩
    have hw10 := hw9.trans (hb10.mono hw9.size)
    go_wp2
    go_ret
    exact ⟨rfl, hw10⟩
  · have HK := Lib.hid (keys_no size v seed height w hs (by omega))
    obtain ⟨va, vn, vc, rfl⟩ := hs.val
    clear hs hd ht hns hnd hl
    go_enter Tryd.func10, Tryd.ntmps10
    go_wp2_with fail
    refine HK.out.mono ?_
    rintro e w1 ⟨rfl, rfl⟩
    go_wp2_with fail
    refine (HAW.out _ (Below.refl _ _)).mono ?_
    rintro e w2 ⟨rfl, hb⟩
    go_wp2
    go_ret
    exact ⟨rfl, hb⟩

end Go.Proofs.YtililoojjfcfgaaDoor
