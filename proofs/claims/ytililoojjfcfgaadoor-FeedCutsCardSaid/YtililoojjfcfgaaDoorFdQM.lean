/- The reference's Prove (printed by gen_fdq.py). Conditions: ten batches of ten changes at most. -/
import Derived.Test.YtililoojjfcfgaaDoorFdPM
import Derived.Test.YtililoojjfcfgaaDoorFdRM
import Derived.Test.YtililoojjfcfgaaDoorRefRgM
import Derived.Test.YtililoojjfcfgaaDoorEqCutsM
import Derived.Deep.Cut
namespace Go.Proofs.YtililoojjfcfgaaDoor
open Go.RowKit
set_option linter.unusedVariables false

/-- The call's slots in the region. -/
abbrev fqAct (Bx kk bb bo bn bc : Nat) (size : Int) (g u : Nat → Value) : Act := { tmps := #[.int .i64 size, .slice (some ⟨bb, bo, none⟩) bn bc, g 2, g 3, g 4, g 5, g 6, g 7, g 8, g 9, g 10, g 11, u 12, .int .i64 kk, .pointer (some ⟨Bx, 0, none⟩), g 15, g 16, g 17, g 18, g 19, g 20, g 21, g 22, g 23, g 24, g 25, g 26, g 27, g 28, g 29, g 30, g 31, g 32, g 33, g 34, g 35, g 36, u 37, u 38, u 39, u 40, u 41, u 42, u 43, u 44, u 45, u 46, u 47, u 48, u 49, u 50, u 51, g 52, g 53], defers := [] }
structure FqT (Bx kk bb bo bn bc : Nat) (size lo hi : Int) (ua : Option Addr) (un uc : Nat) (vO : Value) (D : Nat → Bool) (u : Nat → Value) : Prop where
  s0 : D 0 = true → u 37 = vO
  s1 : D 1 = true → u 38 = .int .i64 size
  s2 : D 2 = true → u 39 = .int .i64 size
  s3 : D 3 = true → u 40 = .slice (some ⟨bb, bo, none⟩) bn bc
  s4 : D 4 = true → u 41 = .int .i64 kk
  s5 : D 5 = true → u 42 = .pointer (some ⟨bb, bo + kk, none⟩)
  s6 : D 6 = true → u 43 = .slice ua un uc
  s8 : D 8 = true → u 45 = .pointer (some ⟨Bx, 0, none⟩)
  s9 : D 9 = true → u 46 = .int .i64 lo
  s10 : D 10 = true → u 47 = .pointer (some ⟨Bx, 1, none⟩)
  s11 : D 11 = true → u 48 = .int .i64 hi
  o0 : D 15 = false → u 12 = vO
  o1 : D 15 = true → u 12 = u 51
structure FqW (base : Nat) (w0 : World) (L : List (List (List Int))) (lvs R : List (List Int)) (W : World) (D : Nat → Bool) (u : Nat → Value) (w : World) : Prop where
  bel : D 14 = false → Below W.heap.size W w
  bel0 : Below base w0 w
  ol2 : D 14 = true → OLv w base (u 51) (L ++ [R])
  lv : D 7 = true → D 14 = false → Sls w (u 44) lvs
  rg : D 12 = true → D 14 = false → OSls w 0 (u 49) R
  lit : D 13 = true → D 14 = false → ∃ b, u 50 = .slice (some ⟨b, 0, none⟩) 1 1 ∧ Blk w b 23 #[u 49]
theorem FqW.below {base : Nat} {w0 : World} {L : List (List (List Int))} {lvs R : List (List Int)} {W : World} {D : Nat → Bool} {u : Nat → Value} {w w' : World} (h : FqW base w0 L lvs R W D u w) (hb : Below w.heap.size w w') (hd : D 14 = false) (hbs : base ≤ w.heap.size) : FqW base w0 L lvs R W D u w' :=
  ⟨fun q => below_trans2 (h.bel q) hb, h.bel0.trans (hb.mono hbs), fun q => (by rw [hd] at q; cases q), fun q r => (h.lv q r).below hb (Nat.le_refl _), fun q r => (h.rg q r).below hb,
    fun q r => (by obtain ⟨b, e, k⟩ := h.lit q r; exact ⟨b, e, k.belowS hb⟩)⟩
def fqInv (Bx kk bb bo bn bc : Nat) (size lo hi : Int) (ua : Option Addr) (un uc : Nat) (vO : Value) (base : Nat) (w0 : World) (L : List (List (List Int))) (lvs R : List (List Int)) (W : World) (g : Nat → Value) (D : Nat → Bool) (a : Act) (w : World) : Prop :=
  ∃ u, a = fqAct Bx kk bb bo bn bc size g u ∧ FqT Bx kk bb bo bn bc size lo hi ua un uc vO D u ∧ FqW base w0 L lvs R W D u w

theorem cutsFrom_at : ∀ (xs : List Int) (j : Nat) (index limit : Int) (k : Nat) (c : CutP), (cutsFrom j index limit xs)[k]? = some c → c.at_ = j + k
  | [], _, _, _, _, _, h => by simp [cutsFrom] at h
  | n :: r, j, index, limit, k, c, h => by
    unfold cutsFrom at h
    split at h
    · simp at h
    · cases k with
      | zero => simp at h; rw [← h]; rfl
      | succ k =>
        rw [List.getElem?_cons_succ] at h
        have := cutsFrom_at r (j + 1) _ _ k c h
        omega
theorem cutsI_at {xs : List Int} {index limit : Int} {k : Nat} {c : CutP} (h : (cutsI xs index limit)[k]? = some c) : c.at_ = k := by
  unfold cutsI at h
  split at h
  · simp at h
  · have := cutsFrom_at xs 0 index limit k c h
    omega

set_option maxRecDepth 100000 in
set_option maxHeartbeats 4000000 in
theorem refProve_any (size : Int) (v : Value) (ll : List (List Chg)) (index limit : Int) (w : World) (hlen : ll.length ≤ 10) (h10 : ∀ l ∈ ll, l.length ≤ 10) (hB : ∀ l ∈ ll, ∀ p ∈ l, IsB p.1 ∧ IsB p.2)
    (hi64 : -9223372036854775808 ≤ index ∧ index ≤ 9223372036854775807) (hl64 : -9223372036854775808 ≤ limit ∧ limit ≤ 9223372036854775807) (hs : Bdss w v ll) :
    Calls Tryd.prog 21 #[.int .i64 size, v, .int .i64 index, .int .i64 limit] w fun e w' => ∃ x, e = .returned x ∧ OLv w' w.heap.size x (showsI size ll (cutsI (cntI ll) index limit)) ∧ Below w.heap.size w w' := by
  obtain ⟨va, vc, rfl, hvc, hvm⟩ := hs.shape
  obtain ⟨i0, hi, hz0, hz1, hz2⟩ := info_parts (show (Tryd.prog.info? 3).map (fun i => (i.zero, i.size, i.bytes)) = some (some (.int .i64 0), 1, 8) by kernel_rfl)
  have HS := Lib.hid (fun w1 (hb : Below w.heap.size w w1) => hs.below hb (Nat.le_refl _))
  have H10 := Lib.hid h10
  have HBB := Lib.hid hB
  have ZL := Lib.hid (show (cntI ll).length = ll.length by simp [cntI])
  clear hs h10 hB
  go_enter Tryd.func21, Tryd.ntmps21
  go_wp2
  go_loopw [9, 17] (fun o i wr => ∃ (k : Nat) (ov : Value), ov = o ∧ k ≤ ll.length ∧ i = .int .i64 k ∧ wr.ownsRow w.heap.size 3 1 ov k ((cntI (ll.take k)).map (Value.int .i64)) ∧ Below w.heap.size w wr) (fun _ i _ => ll.length - (intOf i).toNat)
  case atStart => exact ⟨0, _, rfl, by omega, rfl, World.ownsRow_nil _ _ _ _, Below.refl _ _⟩
  case round =>
    obtain ⟨k, ov, rfl, hk, rfl, hO, hbr⟩ := hrel
    have HO := Lib.hid hO
    have HB := Lib.hid hbr
    have hsz := hbr.size
    obtain ⟨oa, oc, rfl, hoc1, hoc2⟩ : ∃ a c, ov = Value.slice a k c ∧ k ≤ c ∧ c ≤ 9223372036854775807 := by
      obtain ⟨a, c, e, h1, h2⟩ := (Sl.of_owns hO).shape
      have e2 : ((cntI (ll.take k)).map (Value.int .i64)).length = k := by simp [cntI]; omega
      rw [e2] at e h1
      exact ⟨a, c, e, h1, h2⟩
    clear hO hbr
    by_cases hlt : k < ll.length
    · have hkI : (k : Int) < (ll.length : Int) := by omega
      obtain ⟨l, hl⟩ : ∃ l, ll[k]? = some l := ⟨ll[k], List.getElem?_eq_getElem hlt⟩
      obtain ⟨b, off, rfl, hbb, u, cu, hu⟩ := (HS.out wr HB.out).at hl
      obtain ⟨ua, uc, rfl, huc, hum⟩ := hu.shape
      have HCT := Lib.hid (cnt_take ll hl)
      have HLT := Lib.hid hlt
      clear hu hl
      go_wp2_with (at_builtin; refine wpList_append_own _ rfl _ _ 35 rfl w.heap.size 3 i0 (.int .i64 0) 1 8 Tryd.underlying35 hi hz0 hz1 hz2 rfl (by decide) (.slice oa k oc) k _ rfl (ownsRow_below HO.out ((Below.refl _ _).alloc (Nat.le_refl _) _) (Nat.le_refl _)) ⟨wr.heap.size, 0, none⟩ 1 1 [.int .i64 l.length] rfl rfl (cell_one_new _ _ _) (by simp [Value.oneCell']) (by unfold maxLen; omega) (by omega) (by simp; omega) ?_)
      intro v2 w2 hown2 hg2 _
      have hb2 := below_append HB.out HO.out (Nat.le_refl _) hsz hg2
      obtain ⟨g2, c2, rfl⟩ := ownsRow_succN hown2
      have HO2 := Lib.hid (show w2.ownsRow w.heap.size 3 1 (.slice (some ⟨g2, 0, none⟩) (k + 1) c2) (k + 1) ((cntI (ll.take (k + 1))).map (Value.int .i64)) by rw [HCT.out, List.map_append]; exact hown2)
      have HB2 := Lib.hid hb2
      clear hown2 hg2 hb2
      go_wp2
      go_roundw
      case rel => exact ⟨k + 1, _, rfl, HLT.out, by go_num, HO2.out, HB2.out⟩
      case measure => simp [intOf]; have := HLT.out; omega
    · obtain rfl : k = ll.length := by omega
      have hkI : ¬ (ll.length : Int) < (ll.length : Int) := by omega
      have hsl : Sl wr (.slice oa (cntI ll).length oc) ((cntI ll).map (Value.int .i64)) := by
        have := Sl.of_owns HO.out
        rw [List.take_length] at this
        rw [ZL.out]; exact this
      have HCU := Lib.hid (refCuts_any oa oc (cntI ll) index limit (fun x hx => by obtain ⟨l, hl, rfl⟩ := List.mem_map.1 hx; have := H10.out l hl; omega) hi64 hl64 (by rw [ZL.out]; omega) wr hsl)
      rw [ZL.out] at HCU
      have HLAW := Lib.hid (cutsI_law (cntI ll) index limit)
      have HALN := Lib.hid (show (cutsI (cntI ll) index limit).length ≤ 10 by have := cutsI_length (cntI ll) index limit; rw [ZL.out] at this; omega)
      generalize hall : cutsI (cntI ll) index limit = all at *
      have HAE := Lib.hid hall
      clear hsl HO hall
      go_wp2_with fail
      refine HCU.out.mono ?_
      rintro e w3 ⟨cv, rfl, hcv, hb3⟩
      have hbw3 := below_trans2 HB.out hb3
      obtain ⟨ca, cc, rfl, hcc⟩ : ∃ a c, cv = Value.slice a all.length c ∧ all.length ≤ c := by
        rcases hcv.2 with ⟨rfl, e⟩ | ⟨g, c, cur, e, _, _, hnc, _⟩
        · rw [e]; exact ⟨_, _, rfl, Nat.le_refl _⟩
        · exact ⟨_, _, e, hnc⟩
      have HCV := Lib.hid hcv
      have HB3 := Lib.hid hbw3
      clear hcv hb3 hbw3 HCU HB hsz
      go_wp2
      go_loopw [12, 32] (fun o i wr => ∃ (k : Nat) (ov : Value), ov = o ∧ k ≤ all.length ∧ i = .int .i64 k ∧ OLv wr w3.heap.size ov (showsI size ll (all.take k)) ∧ Below w.heap.size w wr ∧ Below w3.heap.size w3 wr) (fun _ i _ => all.length - (intOf i).toNat)
      case atStart => exact ⟨0, _, rfl, by omega, rfl, OLv.nil _ _, HB3.out, Below.refl _ _⟩
      case round =>
        obtain ⟨k, ov, rfl, hk, rfl, hO, hb0, hb1⟩ := hrel
        by_cases hlt : k < all.length
        · have hkI : (k : Int) < (all.length : Int) := by omega
          obtain ⟨⟨at_, lo, hi⟩, hc⟩ : ∃ c, all[k]? = some c := ⟨all[k], List.getElem?_eq_getElem hlt⟩
          have hck : at_ = k := cutsI_at (by rw [HAE.out]; exact hc)
          subst hck
          obtain ⟨q1, q2, n, hn, q3⟩ := HLAW.out.1 _ (List.mem_of_getElem? hc)
          dsimp only at q1 q2 hn q3
          obtain ⟨l, hl, hnl⟩ : ∃ l, ll[at_]? = some l ∧ n = (l.length : Int) := by
            unfold cntI at hn
            rw [List.getElem?_map] at hn
            cases hq : ll[at_]? with
            | none => rw [hq] at hn; cases hn
            | some l => rw [hq] at hn; exact ⟨l, rfl, by simpa using hn.symm⟩
          subst hnl
          have hkl : at_ < ll.length := (List.getElem?_eq_some_iff.1 hl).1
          have hlm := List.mem_of_getElem? hl
          have hl10 := H10.out l hlm
          have hsnoc : showsI size ll (all.take (at_ + 1)) = showsI size ll (all.take at_) ++ [rngI size (leavesI size l) lo hi] := by
            rw [show all.take (at_ + 1) = all.take at_ ++ [⟨at_, lo, hi⟩] by rw [List.take_add_one, hc]; rfl]
            unfold showsI
            rw [List.map_append]
            simp [showC, List.getD_eq_getElem?_getD, hl]
          have hplen : (showsI size ll (all.take at_)).length + 1 ≤ 5000000000000 := by
            have := HALN.out
            unfold showsI
            rw [List.length_map, List.length_take]
            omega
          obtain ⟨bb, bo, rfl, hbb, u, cu, hu⟩ := (HS.out wr hb0).at hl
          obtain ⟨ua, uc, rfl, huc, hum⟩ := hu.shape
          have hcr : CRow w3 (.slice ca (rngs all).length cc) (rngs all) := CRow.of_owns (l := rngs all) (by rw [flatP_rngs]; have h := HCV.out; simpa [rngs] using h)
          obtain ⟨cb, co, rfl, hcb, cx1, cx2⟩ := (hcr.below hb1 (Nat.le_refl _)).at (k := at_) (p := (lo, hi)) (by unfold rngs; rw [List.getElem?_map, hc]; rfl)
          dsimp only at cx1 cx2
          have hlv : ∀ p ∈ leavesI size l, IsB p ∧ p.length ≤ 32 := fun p hp => ⟨leavesI_isB size l p hp, by obtain ⟨q, _, rfl⟩ := List.mem_map.1 hp; exact hashT_len _ _ _⟩
          have hll : (leavesI size l).length = l.length := by simp [leavesI]
          have HLVG := Lib.hid (fun w' (hb : Below wr.heap.size wr w') => refLeaves_any size (.slice ua l.length uc) l w' (by omega) (HBB.out l hlm) (hu.below hb (Nat.le_refl _)))
          have HRGG := Lib.hid (show ∀ w', Below wr.heap.size wr w' → ∀ y, Sls w' y (leavesI size l) → Calls Tryd.prog 65 #[.int .i64 size, y, .int .i64 lo, .int .i64 hi] w' fun e w'' => ∃ y, e = .returned y ∧ OSls w'' w'.heap.size y (rngI size (leavesI size l) lo hi) ∧ Below w'.heap.size w' w'' from fun w' hb y hy => refRange_any size l.length (leavesI size l) (by omega) y lo hi w' (by rw [hll]; omega) (fun p hp => (hlv p hp).1) (fun p hp => by have := (hlv p hp).2; omega) hy (by omega) (by omega) (by rw [hll]; omega))
          have HSN := Lib.hid hsnoc
          have HLT := Lib.hid hlt
          have HO := Lib.hid hO
          have HB0 := Lib.hid hb0
          have HB1 := Lib.hid hb1
          have HCU := Lib.hid cu
          have HHB := Lib.hid hbb
          have HPL := Lib.hid hplen
          have HHI := Lib.hid q3
          clear hsnoc hlv hll hO hb0 hb1 cu hplen hu hl hn q3 hl10 hlm hcr hbb
          go_wp2
          go_upto_region 11 with (fail)
          obtain ⟨pa, pc, rfl⟩ := HO.out.val
          generalize hW0 : wr.alloc (.cells #[.int .i64 lo, .int .i64 hi] 43) = W
          have hbW : Below wr.heap.size wr W := by rw [← hW0]; exact (Below.refl _ _).alloc (Nat.le_refl _) _
          have hbw := hbW.size
          have hw0 := HB0.out.size
          have KX := Lib.hid (show Blk W wr.heap.size 43 #[.int .i64 lo, .int .i64 hi] by rw [← hW0]; exact Blk.new wr 43 #[.int .i64 lo, .int .i64 hi])
          have HEL := Lib.hid (And.intro (show bb < W.heap.size by have := HHB.out; omega) ((hbW.cell (p := ⟨bb, bo + at_, none⟩) HHB.out).trans HCU.out))
          have HOL := Lib.hid (HO.out.below hbW)
          have HLN := HPL
          have HBS := Lib.hid (show w3.heap.size ≤ W.heap.size by have := HB1.out.size; omega)
          have HLV := Lib.hid (fun w' (hb : Below W.heap.size W w') => HLVG.out w' (below_trans2 hbW hb))
          have HRG := Lib.hid (fun w' (hb : Below W.heap.size W w') => HRGG.out w' (below_trans2 hbW hb))
          have HBW := Lib.hid (below_trans2 HB0.out hbW)
          have HBW1 := Lib.hid (below_trans2 HB1.out hbW)
          clear HO HLVG HRGG hbW hW0
          generalize showsI size ll (all.take at_) = L at *
          generalize rngI size (leavesI size l) lo hi = R at *
          generalize leavesI size l = lvs at *
          generalize wr.heap.size = Bx at *
          refine wp_region_inv2 (fqInv Bx at_ bb bo ll.length vc size lo hi ua l.length uc (.slice pa L.length pc) w3.heap.size w3 L lvs R W (fun k => (#[.int .i64 size, .slice (some ⟨bb, bo, none⟩) ll.length vc, .int .i64 index, .int .i64 limit, undef, undef, undef, undef, .slice none 0 0, .slice oa ll.length oc, undef, u11, .slice pa L.length pc, .int .i64 at_, .pointer (some ⟨Bx, 0, none⟩), .slice (some ⟨bb, bo, none⟩) ll.length vc, .int .i64 ll.length, .int .i64 ll.length, .bool false, u19, u20, u21, u22, u23, u24, u25, u26, .slice oa ll.length oc, .int .i64 index, .int .i64 limit, .slice (some ⟨cb, co, none⟩) all.length cc, .int .i64 all.length, .int .i64 at_, .bool true, .int .i64 at_, .pointer (some ⟨cb, co + at_ * 2, none⟩), .agg #[.int .i64 lo, .int .i64 hi], u37, u38, u39, u40, u41, u42, u43, u44, u45, u46, u47, u48, u49, u50, u51, u52, undef] : Array Value).getD k undef)) (by kernel_rfl) (by kernel_rfl) ?start ?step ?fin
          case start =>
            refine ⟨fun k => (#[.int .i64 size, .slice (some ⟨bb, bo, none⟩) ll.length vc, .int .i64 index, .int .i64 limit, undef, undef, undef, undef, .slice none 0 0, .slice oa ll.length oc, undef, u11, .slice pa L.length pc, .int .i64 at_, .pointer (some ⟨Bx, 0, none⟩), .slice (some ⟨bb, bo, none⟩) ll.length vc, .int .i64 ll.length, .int .i64 ll.length, .bool false, u19, u20, u21, u22, u23, u24, u25, u26, .slice oa ll.length oc, .int .i64 index, .int .i64 limit, .slice (some ⟨cb, co, none⟩) all.length cc, .int .i64 all.length, .int .i64 at_, .bool true, .int .i64 at_, .pointer (some ⟨cb, co + at_ * 2, none⟩), .agg #[.int .i64 lo, .int .i64 hi], u37, u38, u39, u40, u41, u42, u43, u44, u45, u46, u47, u48, u49, u50, u51, u52, undef] : Array Value).getD k undef, rfl, ⟨(fun q => by cases q), (fun q => by cases q), (fun q => by cases q), (fun q => by cases q), (fun q => by cases q), (fun q => by cases q), (fun q => by cases q), (fun q => by cases q), (fun q => by cases q), (fun q => by cases q), (fun q => by cases q), (fun _ => rfl), (fun q => by cases q)⟩, ?_⟩
            exact ⟨fun _ => (Below.refl _ W).drew, HBW1.out.drew, (fun q => by cases q), (fun q => by cases q), (fun q => by cases q), (fun q => by cases q)⟩
          case step =>
            intro D a zw i hi hI hD hcl hn
            obtain ⟨u, rfl, hT, hW⟩ := hI
            have hi' : i < 16 := hi
            clear hi
            rcases (show i = 0 ∨ i = 1 ∨ i = 2 ∨ i = 3 ∨ i = 4 ∨ i = 5 ∨ i = 6 ∨ i = 7 ∨ i = 8 ∨ i = 9 ∨ i = 10 ∨ i = 11 ∨ i = 12 ∨ i = 13 ∨ i = 14 ∨ i = 15 from by omega) with rfl | rfl | rfl | rfl | rfl | rfl | rfl | rfl | rfl | rfl | rfl | rfl | rfl | rfl | rfl | rfl
            · have n14 : D 14 = false := by
                cases q : D 14 with
                | false => rfl
                | true => have := (hcl 14 0 q (needs_b (by kernel_rfl))); rw [hD] at this; cases this
              have hbl := hW.bel n14
              have n15 : D 15 = false := by
                cases q : D 15 with
                | false => rfl
                | true => have := (hcl 15 0 q (needs_b (by kernel_rfl))); rw [hD] at this; cases this
              have e12 := hT.o0 n15
              refine wpOp_plain rfl rfl ?_
              go_simp
              exact ⟨upd u 37 (.slice pa L.length pc), by first | rfl | simp [upd, e12], ⟨fun _ => rfl, fun h => hT.s1 h, fun h => hT.s2 h, fun h => hT.s3 h, fun h => hT.s4 h, fun h => hT.s5 h, fun h => hT.s6 h, fun h => hT.s8 h, fun h => hT.s9 h, fun h => hT.s10 h, fun h => hT.s11 h, fun h => hT.o0 h, fun h => hT.o1 h⟩, ⟨hW.bel, hW.bel0, hW.ol2, hW.lv, hW.rg, hW.lit⟩⟩
            · have n14 : D 14 = false := by
                cases q : D 14 with
                | false => rfl
                | true => have := (hcl 12 1 (hcl 13 12 (hcl 14 13 q (needs_b (by kernel_rfl))) (needs_b (by kernel_rfl))) (needs_b (by kernel_rfl))); rw [hD] at this; cases this
              have hbl := hW.bel n14
              refine wpOp_plain rfl rfl ?_
              go_simp
              exact ⟨upd u 38 (.int .i64 size), rfl, ⟨fun h => hT.s0 h, fun _ => rfl, fun h => hT.s2 h, fun h => hT.s3 h, fun h => hT.s4 h, fun h => hT.s5 h, fun h => hT.s6 h, fun h => hT.s8 h, fun h => hT.s9 h, fun h => hT.s10 h, fun h => hT.s11 h, fun h => hT.o0 h, fun h => hT.o1 h⟩, ⟨hW.bel, hW.bel0, hW.ol2, hW.lv, hW.rg, hW.lit⟩⟩
            · have n14 : D 14 = false := by
                cases q : D 14 with
                | false => rfl
                | true => have := (hcl 7 2 (hcl 12 7 (hcl 13 12 (hcl 14 13 q (needs_b (by kernel_rfl))) (needs_b (by kernel_rfl))) (needs_b (by kernel_rfl))) (needs_b (by kernel_rfl))); rw [hD] at this; cases this
              have hbl := hW.bel n14
              refine wpOp_plain rfl rfl ?_
              go_simp
              exact ⟨upd u 39 (.int .i64 size), rfl, ⟨fun h => hT.s0 h, fun h => hT.s1 h, fun _ => rfl, fun h => hT.s3 h, fun h => hT.s4 h, fun h => hT.s5 h, fun h => hT.s6 h, fun h => hT.s8 h, fun h => hT.s9 h, fun h => hT.s10 h, fun h => hT.s11 h, fun h => hT.o0 h, fun h => hT.o1 h⟩, ⟨hW.bel, hW.bel0, hW.ol2, hW.lv, hW.rg, hW.lit⟩⟩
            · have n14 : D 14 = false := by
                cases q : D 14 with
                | false => rfl
                | true => have := (hcl 5 3 (hcl 6 5 (hcl 7 6 (hcl 12 7 (hcl 13 12 (hcl 14 13 q (needs_b (by kernel_rfl))) (needs_b (by kernel_rfl))) (needs_b (by kernel_rfl))) (needs_b (by kernel_rfl))) (needs_b (by kernel_rfl))) (needs_b (by kernel_rfl))); rw [hD] at this; cases this
              have hbl := hW.bel n14
              refine wpOp_plain rfl rfl ?_
              go_simp
              exact ⟨upd u 40 (.slice (some ⟨bb, bo, none⟩) ll.length vc), rfl, ⟨fun h => hT.s0 h, fun h => hT.s1 h, fun h => hT.s2 h, fun _ => rfl, fun h => hT.s4 h, fun h => hT.s5 h, fun h => hT.s6 h, fun h => hT.s8 h, fun h => hT.s9 h, fun h => hT.s10 h, fun h => hT.s11 h, fun h => hT.o0 h, fun h => hT.o1 h⟩, ⟨hW.bel, hW.bel0, hW.ol2, hW.lv, hW.rg, hW.lit⟩⟩
            · have n14 : D 14 = false := by
                cases q : D 14 with
                | false => rfl
                | true => have := (hcl 5 4 (hcl 6 5 (hcl 7 6 (hcl 12 7 (hcl 13 12 (hcl 14 13 q (needs_b (by kernel_rfl))) (needs_b (by kernel_rfl))) (needs_b (by kernel_rfl))) (needs_b (by kernel_rfl))) (needs_b (by kernel_rfl))) (needs_b (by kernel_rfl))); rw [hD] at this; cases this
              have hbl := hW.bel n14
              refine wpOp_plain rfl rfl ?_
              go_simp
              exact ⟨upd u 41 (.int .i64 at_), rfl, ⟨fun h => hT.s0 h, fun h => hT.s1 h, fun h => hT.s2 h, fun h => hT.s3 h, fun _ => rfl, fun h => hT.s5 h, fun h => hT.s6 h, fun h => hT.s8 h, fun h => hT.s9 h, fun h => hT.s10 h, fun h => hT.s11 h, fun h => hT.o0 h, fun h => hT.o1 h⟩, ⟨hW.bel, hW.bel0, hW.ol2, hW.lv, hW.rg, hW.lit⟩⟩
            · have n14 : D 14 = false := by
                cases q : D 14 with
                | false => rfl
                | true => have := (hcl 6 5 (hcl 7 6 (hcl 12 7 (hcl 13 12 (hcl 14 13 q (needs_b (by kernel_rfl))) (needs_b (by kernel_rfl))) (needs_b (by kernel_rfl))) (needs_b (by kernel_rfl))) (needs_b (by kernel_rfl))); rw [hD] at this; cases this
              have d3 : D 3 = true := hn 3 (needs_b (by kernel_rfl))
              have d4 : D 4 = true := hn 4 (needs_b (by kernel_rfl))
              have e40 := hT.s3 d3
              have e41 := hT.s4 d4
              have hbl := hW.bel n14
              refine wpOp_plain rfl rfl ?_
              go_simp
              exact ⟨upd u 42 (.pointer (some ⟨bb, bo + at_, none⟩)), by first | rfl | simp [upd, e40, e41], ⟨fun h => hT.s0 h, fun h => hT.s1 h, fun h => hT.s2 h, fun h => hT.s3 h, fun h => hT.s4 h, fun _ => rfl, fun h => hT.s6 h, fun h => hT.s8 h, fun h => hT.s9 h, fun h => hT.s10 h, fun h => hT.s11 h, fun h => hT.o0 h, fun h => hT.o1 h⟩, ⟨hW.bel, hW.bel0, hW.ol2, hW.lv, hW.rg, hW.lit⟩⟩
            · have n14 : D 14 = false := by
                cases q : D 14 with
                | false => rfl
                | true => have := (hcl 7 6 (hcl 12 7 (hcl 13 12 (hcl 14 13 q (needs_b (by kernel_rfl))) (needs_b (by kernel_rfl))) (needs_b (by kernel_rfl))) (needs_b (by kernel_rfl))); rw [hD] at this; cases this
              have d5 : D 5 = true := hn 5 (needs_b (by kernel_rfl))
              have e42 := hT.s5 d5
              have hbl := hW.bel n14
              have c0 : zw.cell? ⟨bb, bo + at_, none⟩ = some (.slice ua l.length uc) := (hbl.cell (p := ⟨bb, bo + at_, none⟩) HEL.out.1).trans HEL.out.2
              refine wpOp_plain rfl rfl ?_
              go_simp
              exact ⟨upd u 43 (.slice ua l.length uc), by first | rfl | simp [upd, e42], ⟨fun h => hT.s0 h, fun h => hT.s1 h, fun h => hT.s2 h, fun h => hT.s3 h, fun h => hT.s4 h, fun h => hT.s5 h, fun _ => rfl, fun h => hT.s8 h, fun h => hT.s9 h, fun h => hT.s10 h, fun h => hT.s11 h, fun h => hT.o0 h, fun h => hT.o1 h⟩, ⟨hW.bel, hW.bel0, hW.ol2, hW.lv, hW.rg, hW.lit⟩⟩
            · have n14 : D 14 = false := by
                cases q : D 14 with
                | false => rfl
                | true => have := (hcl 12 7 (hcl 13 12 (hcl 14 13 q (needs_b (by kernel_rfl))) (needs_b (by kernel_rfl))) (needs_b (by kernel_rfl))); rw [hD] at this; cases this
              have d2 : D 2 = true := hn 2 (needs_b (by kernel_rfl))
              have d6 : D 6 = true := hn 6 (needs_b (by kernel_rfl))
              have e39 := hT.s2 d2
              have e43 := hT.s6 d6
              have hbl := hW.bel n14
              refine wpOp_plain rfl rfl ?_
              go_simp
              go_at_call 66
              refine (HLV.out zw hbl).mono ?_
              rintro e zw2 ⟨zx, rfl, hx, hb2⟩
              have hW := hW.below hb2 n14 (Nat.le_trans HBS.out hbl.size)
              exact ⟨upd u 44 zx, by first | rfl | simp [upd, e39, e43], ⟨fun h => hT.s0 h, fun h => hT.s1 h, fun h => hT.s2 h, fun h => hT.s3 h, fun h => hT.s4 h, fun h => hT.s5 h, fun h => hT.s6 h, fun h => hT.s8 h, fun h => hT.s9 h, fun h => hT.s10 h, fun h => hT.s11 h, fun h => hT.o0 h, fun h => hT.o1 h⟩, ⟨hW.bel, hW.bel0, hW.ol2, (fun _ _ => hx.sls), hW.rg, hW.lit⟩⟩
            · have n14 : D 14 = false := by
                cases q : D 14 with
                | false => rfl
                | true => have := (hcl 9 8 (hcl 12 9 (hcl 13 12 (hcl 14 13 q (needs_b (by kernel_rfl))) (needs_b (by kernel_rfl))) (needs_b (by kernel_rfl))) (needs_b (by kernel_rfl))); rw [hD] at this; cases this
              have hbl := hW.bel n14
              refine wpOp_plain rfl rfl ?_
              go_simp
              exact ⟨upd u 45 (.pointer (some ⟨Bx, 0, none⟩)), rfl, ⟨fun h => hT.s0 h, fun h => hT.s1 h, fun h => hT.s2 h, fun h => hT.s3 h, fun h => hT.s4 h, fun h => hT.s5 h, fun h => hT.s6 h, fun _ => rfl, fun h => hT.s9 h, fun h => hT.s10 h, fun h => hT.s11 h, fun h => hT.o0 h, fun h => hT.o1 h⟩, ⟨hW.bel, hW.bel0, hW.ol2, hW.lv, hW.rg, hW.lit⟩⟩
            · have n14 : D 14 = false := by
                cases q : D 14 with
                | false => rfl
                | true => have := (hcl 12 9 (hcl 13 12 (hcl 14 13 q (needs_b (by kernel_rfl))) (needs_b (by kernel_rfl))) (needs_b (by kernel_rfl))); rw [hD] at this; cases this
              have d8 : D 8 = true := hn 8 (needs_b (by kernel_rfl))
              have e45 := hT.s8 d8
              have hbl := hW.bel n14
              have c0 : zw.cell? ⟨Bx, 0, none⟩ = some (.int .i64 lo) := (hbl.cell (p := ⟨Bx, 0, none⟩) KX.out.lt).trans (KX.out.cell 0)
              refine wpOp_plain rfl rfl ?_
              go_simp
              exact ⟨upd u 46 (.int .i64 lo), by first | rfl | simp [upd, e45], ⟨fun h => hT.s0 h, fun h => hT.s1 h, fun h => hT.s2 h, fun h => hT.s3 h, fun h => hT.s4 h, fun h => hT.s5 h, fun h => hT.s6 h, fun h => hT.s8 h, fun _ => rfl, fun h => hT.s10 h, fun h => hT.s11 h, fun h => hT.o0 h, fun h => hT.o1 h⟩, ⟨hW.bel, hW.bel0, hW.ol2, hW.lv, hW.rg, hW.lit⟩⟩
            · have n14 : D 14 = false := by
                cases q : D 14 with
                | false => rfl
                | true => have := (hcl 11 10 (hcl 12 11 (hcl 13 12 (hcl 14 13 q (needs_b (by kernel_rfl))) (needs_b (by kernel_rfl))) (needs_b (by kernel_rfl))) (needs_b (by kernel_rfl))); rw [hD] at this; cases this
              have hbl := hW.bel n14
              refine wpOp_plain rfl rfl ?_
              go_simp
              exact ⟨upd u 47 (.pointer (some ⟨Bx, 1, none⟩)), rfl, ⟨fun h => hT.s0 h, fun h => hT.s1 h, fun h => hT.s2 h, fun h => hT.s3 h, fun h => hT.s4 h, fun h => hT.s5 h, fun h => hT.s6 h, fun h => hT.s8 h, fun h => hT.s9 h, fun _ => rfl, fun h => hT.s11 h, fun h => hT.o0 h, fun h => hT.o1 h⟩, ⟨hW.bel, hW.bel0, hW.ol2, hW.lv, hW.rg, hW.lit⟩⟩
            · have n14 : D 14 = false := by
                cases q : D 14 with
                | false => rfl
                | true => have := (hcl 12 11 (hcl 13 12 (hcl 14 13 q (needs_b (by kernel_rfl))) (needs_b (by kernel_rfl))) (needs_b (by kernel_rfl))); rw [hD] at this; cases this
              have d10 : D 10 = true := hn 10 (needs_b (by kernel_rfl))
              have e47 := hT.s10 d10
              have hbl := hW.bel n14
              have c0 : zw.cell? ⟨Bx, 1, none⟩ = some (.int .i64 hi) := (hbl.cell (p := ⟨Bx, 1, none⟩) KX.out.lt).trans (KX.out.cell 1)
              refine wpOp_plain rfl rfl ?_
              go_simp
              exact ⟨upd u 48 (.int .i64 hi), by first | rfl | simp [upd, e47], ⟨fun h => hT.s0 h, fun h => hT.s1 h, fun h => hT.s2 h, fun h => hT.s3 h, fun h => hT.s4 h, fun h => hT.s5 h, fun h => hT.s6 h, fun h => hT.s8 h, fun h => hT.s9 h, fun h => hT.s10 h, fun _ => rfl, fun h => hT.o0 h, fun h => hT.o1 h⟩, ⟨hW.bel, hW.bel0, hW.ol2, hW.lv, hW.rg, hW.lit⟩⟩
            · have n14 : D 14 = false := by
                cases q : D 14 with
                | false => rfl
                | true => have := (hcl 13 12 (hcl 14 13 q (needs_b (by kernel_rfl))) (needs_b (by kernel_rfl))); rw [hD] at this; cases this
              have d1 : D 1 = true := hn 1 (needs_b (by kernel_rfl))
              have d7 : D 7 = true := hn 7 (needs_b (by kernel_rfl))
              have d9 : D 9 = true := hn 9 (needs_b (by kernel_rfl))
              have d11 : D 11 = true := hn 11 (needs_b (by kernel_rfl))
              have e38 := hT.s1 d1
              have e46 := hT.s9 d9
              have e48 := hT.s11 d11
              have hbl := hW.bel n14
              have hlv := hW.lv d7 n14
              obtain ⟨xa, xc, e44, _, _⟩ := hlv.shape
              rw [e44] at hlv
              refine wpOp_plain rfl rfl ?_
              go_simp
              go_at_call 65
              refine (HRG.out zw hbl _ hlv).mono ?_
              rintro e zw2 ⟨zx, rfl, hx, hb2⟩
              have hW := hW.below hb2 n14 (Nat.le_trans HBS.out hbl.size)
              exact ⟨upd u 49 zx, by first | rfl | simp [upd, e44, e38, e46, e48], ⟨fun h => hT.s0 h, fun h => hT.s1 h, fun h => hT.s2 h, fun h => hT.s3 h, fun h => hT.s4 h, fun h => hT.s5 h, fun h => hT.s6 h, fun h => hT.s8 h, fun h => hT.s9 h, fun h => hT.s10 h, fun h => hT.s11 h, fun h => hT.o0 h, fun h => hT.o1 h⟩, ⟨hW.bel, hW.bel0, hW.ol2, hW.lv, (fun _ _ => OSls.base hx (Nat.zero_le _)), (fun q => (by have := hcl 13 12 q (needs_b (by kernel_rfl)); rw [hD] at this; cases this))⟩⟩
            · have n14 : D 14 = false := by
                cases q : D 14 with
                | false => rfl
                | true => have := (hcl 14 13 q (needs_b (by kernel_rfl))); rw [hD] at this; cases this
              have d12 : D 12 = true := hn 12 (needs_b (by kernel_rfl))
              have hrg := hW.rg d12 n14
              have hbl := hW.bel n14
              obtain ⟨ya, yc, e49⟩ := hrg.val
              have hb2 : Below zw.heap.size zw (zw.alloc (.cells #[.slice ya R.length yc] 23)) := (Below.refl _ _).alloc (Nat.le_refl _) _
              have kb := Blk.new zw 23 #[.slice ya R.length yc]
              refine wpOp_plain rfl rfl ?_
              go_simp
              have hW := hW.below hb2 n14 (Nat.le_trans HBS.out hbl.size)
              exact ⟨upd u 50 (.slice (some ⟨zw.heap.size, 0, none⟩) 1 1), by first | rfl | simp [upd, e49], ⟨fun h => hT.s0 h, fun h => hT.s1 h, fun h => hT.s2 h, fun h => hT.s3 h, fun h => hT.s4 h, fun h => hT.s5 h, fun h => hT.s6 h, fun h => hT.s8 h, fun h => hT.s9 h, fun h => hT.s10 h, fun h => hT.s11 h, fun h => hT.o0 h, fun h => hT.o1 h⟩, ⟨hW.bel, hW.bel0, hW.ol2, hW.lv, hW.rg, (fun _ _ => ⟨zw.heap.size, rfl, by show Blk _ _ _ #[u 49]; rw [e49]; exact kb⟩)⟩⟩
            · have d0 : D 0 = true := hn 0 (needs_b (by kernel_rfl))
              have d13 : D 13 = true := hn 13 (needs_b (by kernel_rfl))
              have d12 : D 12 = true := hn 12 (needs_b (by kernel_rfl))
              have e37 := hT.s0 d0
              obtain ⟨b, e50, kb⟩ := hW.lit d13 hD
              have hrg := hW.rg d12 hD
              have hbl := hW.bel hD
              have hol := HOL.out.below hbl
              have n15 : D 15 = false := by
                cases q : D 15 with
                | false => rfl
                | true => have := (hcl 15 14 q (needs_b (by kernel_rfl))); rw [hD] at this; cases this
              refine wpOp_step rfl rfl (step_append_level rfl (.tmp 37) (.tmp 50) rfl w3.heap.size (.slice pa L.length pc) L e37 hol b 1 e50 (u 49) (kb.cell 0) R hrg HLN.out (Nat.le_trans HBS.out hbl.size) ?_)
              intro v2 zw2 hx hb2 hg2
              exact ⟨upd u 51 v2, rfl, ⟨fun h => hT.s0 h, fun h => hT.s1 h, fun h => hT.s2 h, fun h => hT.s3 h, fun h => hT.s4 h, fun h => hT.s5 h, fun h => hT.s6 h, fun h => hT.s8 h, fun h => hT.s9 h, fun h => hT.s10 h, fun h => hT.s11 h, fun h => hT.o0 h, fun q => (by rw [show D 15 = true from q] at n15; cases n15)⟩, ⟨fun q => (by cases q), hW.bel0.trans hb2, fun _ => hx, fun _ q => (by cases q), fun _ q => (by cases q), fun _ q => (by cases q)⟩⟩
            · have d14 : D 14 = true := hn 14 (needs_b (by kernel_rfl))
              have d0 : D 0 = true := hn 0 (needs_b (by kernel_rfl))
              have hx := hW.ol2 d14
              obtain ⟨ya, yc, e51⟩ := hx.val
              refine wpOp_plain rfl rfl ?_
              generalize (L ++ [R]).length = lenX at *
              go_simp
              exact ⟨upd u 12 (u 51), by first | rfl | simp [upd, e51], ⟨fun h => hT.s0 h, fun h => hT.s1 h, fun h => hT.s2 h, fun h => hT.s3 h, fun h => hT.s4 h, fun h => hT.s5 h, fun h => hT.s6 h, fun h => hT.s8 h, fun h => hT.s9 h, fun h => hT.s10 h, fun h => hT.s11 h, fun q => (by cases q), fun _ => rfl⟩, ⟨fun q => (by rw [show D 14 = false from q] at d14; cases d14), hW.bel0, fun _ => hx, fun _ q => (by rw [show D 14 = false from q] at d14; cases d14), fun _ q => (by rw [show D 14 = false from q] at d14; cases d14), fun _ q => (by rw [show D 14 = false from q] at d14; cases d14)⟩⟩
          case fin =>
            intro D a zw hI hall
            obtain ⟨u, rfl, hT, hW⟩ := hI
            have e12 := hT.o1 (hall 15 (by decide))
            have hx := hW.ol2 (hall 14 (by decide))
            have HF := Lib.hid (show OLv zw w3.heap.size (u 51) (showsI size ll (all.take (at_ + 1))) ∧ Below w3.heap.size w3 zw from ⟨by rw [HSN.out]; exact hx, hW.bel0⟩)
            have hlt : at_ + 1 ≤ all.length := HLT.out
            clear hx hW hT hall HSN HEL KX HOL HLN HLV HRG HCU HHB HPL HHI
            rw [show fqAct Bx at_ bb bo ll.length vc size (fun k => (#[.int .i64 size, .slice (some ⟨bb, bo, none⟩) ll.length vc, .int .i64 index, .int .i64 limit, undef, undef, undef, undef, .slice none 0 0, .slice oa ll.length oc, undef, u11, .slice pa L.length pc, .int .i64 at_, .pointer (some ⟨Bx, 0, none⟩), .slice (some ⟨bb, bo, none⟩) ll.length vc, .int .i64 ll.length, .int .i64 ll.length, .bool false, u19, u20, u21, u22, u23, u24, u25, u26, .slice oa ll.length oc, .int .i64 index, .int .i64 limit, .slice (some ⟨cb, co, none⟩) all.length cc, .int .i64 all.length, .int .i64 at_, .bool true, .int .i64 at_, .pointer (some ⟨cb, co + at_ * 2, none⟩), .agg #[.int .i64 lo, .int .i64 hi], u37, u38, u39, u40, u41, u42, u43, u44, u45, u46, u47, u48, u49, u50, u51, u52, undef] : Array Value).getD k undef) u = fqAct Bx at_ bb bo ll.length vc size (fun k => (#[.int .i64 size, .slice (some ⟨bb, bo, none⟩) ll.length vc, .int .i64 index, .int .i64 limit, undef, undef, undef, undef, .slice none 0 0, .slice oa ll.length oc, undef, u11, .slice pa L.length pc, .int .i64 at_, .pointer (some ⟨Bx, 0, none⟩), .slice (some ⟨bb, bo, none⟩) ll.length vc, .int .i64 ll.length, .int .i64 ll.length, .bool false, u19, u20, u21, u22, u23, u24, u25, u26, .slice oa ll.length oc, .int .i64 index, .int .i64 limit, .slice (some ⟨cb, co, none⟩) all.length cc, .int .i64 all.length, .int .i64 at_, .bool true, .int .i64 at_, .pointer (some ⟨cb, co + at_ * 2, none⟩), .agg #[.int .i64 lo, .int .i64 hi], u37, u38, u39, u40, u41, u42, u43, u44, u45, u46, u47, u48, u49, u50, u51, u52, undef] : Array Value).getD k undef) (upd u 12 (u 51)) by simp [upd, e12]]
            clear e12
            go_wp2
            exact ⟨⟨at_ + 1, u 51, rfl, hlt, by go_num, HF.out.1, below_trans2 HB3.out HF.out.2, HF.out.2⟩, by simp [intOf]; omega⟩
        · obtain rfl : k = all.length := by omega
          have hkI : ¬ (all.length : Int) < (all.length : Int) := by omega
          rw [List.take_length] at hO
          have HO := Lib.hid hO
          have HB0 := Lib.hid hb0
          clear hO hb0 hb1
          obtain ⟨pa, pc, rfl⟩ := HO.out.val
          generalize (showsI size ll all).length = lenX at *
          go_wp2
          go_ret
          exact ⟨_, rfl, by rw [HAE.out]; exact OLv.base HO.out (by have := HB3.out.size; omega), HB0.out⟩

end Go.Proofs.YtililoojjfcfgaaDoor
