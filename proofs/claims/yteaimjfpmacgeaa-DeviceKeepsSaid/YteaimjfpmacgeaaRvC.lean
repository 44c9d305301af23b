/- The reference's device: Write. -/
import Derived.Test.YteaimjfpmacgeaaRvB
import Derived.Test.YteaimjfpmacgeaaDvD
import Derived.Deep.Cut
namespace Go.Proofs.Yteaimjfpmacgeaa
open Go.RowKit
set_option linter.unusedVariables false

theorem Sl.noY {w w' : World} {v : Value} {bs : List Int} {y : Nat} (h : Sl w v (bs.map (Value.int .u8))) (ho : Only [y] w w') (hy : ∀ o x, w.cell? ⟨y, o, none⟩ ≠ some (Value.int .u8 x)) : Sl w' v (bs.map (Value.int .u8)) := by
  obtain ⟨a, cap, rfl, h1, h2, h3⟩ := h
  refine ⟨a, cap, rfl, h1, h2, fun hn => ?_⟩
  obtain ⟨b, off, e, hlt, hc⟩ := h3 hn
  refine ⟨b, off, e, Nat.lt_of_lt_of_le hlt ho.size, fun j u hj => ?_⟩
  have q := hc j u hj
  obtain ⟨x, rfl⟩ : ∃ x, u = Value.int .u8 x := by
    rw [List.getElem?_map] at hj
    cases hb : bs[j]? with
    | none => rw [hb] at hj; cases hj
    | some x => rw [hb] at hj; exact ⟨x, (Option.some.inj hj).symm⟩
  have hb : b ≠ y := fun e2 => hy (off + j) x (by rw [← e2]; exact q)
  exact (ho.cell (p := ⟨b, off + j, none⟩) hlt (by simp; exact hb)).trans q
theorem RDev.noU8 {w : World} {y gl gk gw : Nat} {d : DSt} (h : RDev w y gl gk gw d) : ∀ o x, w.cell? ⟨y, o, none⟩ ≠ some (Value.int .u8 x) := by
  obtain ⟨cl, ck, cw, _, _, _, k⟩ := h.blk
  intro o x e
  rw [k.cell o] at e
  match o, e with
  | 0, e => simp at e
  | 1, e => simp at e
  | 2, e => simp at e
  | 3, e => simp at e
  | 4, e => simp at e
  | 5, e => simp at e
  | n + 6, e => simp at e
theorem TRow.set {w : World} {gl : Nat} {xs : List (List Int)} (h : TRow w gl xs) (i : Nat) {u : Value} {bs : List Int} (hu : OB w 0 u bs) (hi : i < xs.length) : TRow (w.setCell ⟨gl, i, none⟩ u) gl (xs.set i bs) := by
  obtain ⟨cur, k, hx⟩ := h
  have ho : Only [gl] w (w.setCell ⟨gl, i, none⟩ u) := Only.setCell _ _ (by simp) _
  have hf : ∀ q ∈ [gl], ∀ c, ¬ Blk w q 5 c := fun q hq c e => by
    obtain rfl : q = gl := by simpa using hq
    exact Blk.ne_ e k (by decide) rfl
  have hil : i < cur.size := by
    obtain ⟨u', hu', _⟩ := hx i xs[i] (List.getElem?_eq_getElem hi)
    exact (Array.getElem?_eq_some_iff.1 hu').1
  refine ⟨cur.setIfInBounds i u, k.set_ i u, fun j b hj => ?_⟩
  by_cases e : i = j
  · subst e
    rw [List.getElem?_set_self hi] at hj
    cases hj
    exact ⟨u, by rw [Array.getElem?_setIfInBounds_self_of_lt hil], hu.only ho hf⟩
  · rw [List.getElem?_set_ne e] at hj
    obtain ⟨u', hu', hb'⟩ := hx j b hj
    exact ⟨u', by rw [Array.getElem?_setIfInBounds_ne e]; exact hu', hb'.only ho hf⟩
theorem BRow.set {w : World} {gw : Nat} {ws : List Bool} (h : BRow w gw ws) (i : Nat) (x : Bool) (hi : i < ws.length) : BRow (w.setCell ⟨gw, i, none⟩ (.bool x)) gw (ws.set i x) := by
  obtain ⟨cur, k, hx⟩ := h
  have hil : i < cur.size := by
    have hu' := hx i ws[i] (List.getElem?_eq_getElem hi)
    exact (Array.getElem?_eq_some_iff.1 hu').1
  refine ⟨cur.setIfInBounds i (.bool x), k.set_ i _, fun j b hj => ?_⟩
  by_cases e : i = j
  · subst e
    rw [List.getElem?_set_self hi] at hj
    cases hj
    exact Array.getElem?_setIfInBounds_self_of_lt hil
  · rw [List.getElem?_set_ne e] at hj
    rw [Array.getElem?_setIfInBounds_ne e]; exact hx j b hj
/-- One sector's parts are turned: the text, and whether it waits. -/
theorem RDev.setNow {w : World} {y gl gk gw : Nat} {d : DSt} (h : RDev w y gl gk gw d) {j : Nat} {s : Sec} (hj : d.l[j]? = some s) {u : Value} {bs : List Int} (hu : OB w 0 u bs) (x : Bool) (hok : ({ now := bs, kept := s.kept, waits := x } : Sec).ok) :
    RDev ((w.setCell ⟨gl, j, none⟩ u).setCell ⟨gw, j, none⟩ (.bool x)) y gl gk gw { d with l := d.l.set j { now := bs, kept := s.kept, waits := x } } := by
  have hjl : j < d.l.length := (List.getElem?_eq_some_iff.1 hj).1
  obtain ⟨cl, ck, cw, h1, h2, h3, k⟩ := h.blk
  obtain ⟨c1, k1⟩ := h.rl.typ
  obtain ⟨c2, k2⟩ := h.rk.typ
  obtain ⟨c3, k3⟩ := h.rw.typ
  have hne := h.ne
  have n1 : y ≠ gl := Blk.ne_ k k1 (by decide)
  have n2 : y ≠ gw := Blk.ne_ k k3 (by decide)
  have n3 : gl ≠ gw := Blk.ne_ k1 k3 (by decide)
  have n4 : gk ≠ gw := Blk.ne_ k2 k3 (by decide)
  have hr1 := h.rl.set j hu (by rw [List.length_map]; exact hjl)
  have hk1 := h.rk.only (Only.setCell [gl] w (p := ⟨gl, j, none⟩) (by simp) u) (fun q hq c e => by
    obtain rfl : q = gl := by simpa using hq
    exact Blk.ne_ e k1 (by decide) rfl) (by simp; exact fun e => hne e.symm)
  have hw1 := h.rw.only (Only.setCell [gl] w (p := ⟨gl, j, none⟩) (by simp) u) (by simp; exact fun e => n3 e.symm)
  have k3' := k3.far (p := ⟨gl, j, none⟩) (fun e => n3 e.symm) u
  have hf : ∀ q ∈ [gw], ∀ c, ¬ Blk (w.setCell ⟨gl, j, none⟩ u) q 5 c := fun q hq c e => by
    obtain rfl : q = gw := by simpa using hq
    exact Blk.ne_ e k3' (by decide) rfl
  have ho2 := Only.setCell [gw] (w.setCell ⟨gl, j, none⟩ u) (p := ⟨gw, j, none⟩) (by simp) (.bool x)
  refine ⟨⟨cl, ck, cw, by rw [List.length_set]; exact h1, by rw [List.length_set]; exact h2, by rw [List.length_set]; exact h3, ?_⟩, ?_, ?_, ?_, hne, by rw [List.length_set]; exact h.pos, h.burns, set_ok h.ok hok⟩
  · rw [List.length_set]
    exact (k.far (p := ⟨gl, j, none⟩) n1 u).far (p := ⟨gw, j, none⟩) n2 (.bool x)
  · rw [List.map_set]; exact hr1.only ho2 hf (by simp; exact n3)
  · rw [List.map_set]
    have e : (d.l.map Sec.kept).set j s.kept = d.l.map Sec.kept := by
      apply List.ext_getElem?; intro m
      by_cases q : j = m
      · subst q; rw [List.getElem?_set_self (by rw [List.length_map]; exact hjl), List.getElem?_map, hj]; rfl
      · rw [List.getElem?_set_ne q]
    show TRow _ gk ((d.l.map Sec.kept).set j s.kept)
    rw [e]; exact hk1.only ho2 hf (by simp; exact n4)
  · rw [List.map_set]; exact hw1.set j x (by rw [List.length_map]; exact hjl)

set_option maxRecDepth 100000 in
set_option maxHeartbeats 2000000 in
theorem rwrite_any (w : World) (y gl gk gw : Nat) (d : DSt) (i : Int) (v : Value) (bs : List Int) (h : RDev w y gl gk gw d) (hB : IsB bs) (hv : Sl w v (bs.map (Value.int .u8))) :
    Calls Try.prog 47 #[.pointer (some ⟨y, 0, none⟩), .int .i64 i, v] w fun e w' => e = .returned (.int .i64 (d.wrE i bs)) ∧ RDev w' y gl gk gw (d.wrote i bs) ∧ Only [y, gl, gw] w w' := by
  have HD := Lib.hid h
  have HV := Lib.hid hv
  have HC := Lib.hid (rburn_any w y gl gk gw d h)
  obtain ⟨va, vc, rfl, hvc, hvm⟩ := hv.shape
  rw [List.length_map] at *
  obtain ⟨cl, ck, cw, h1, h2, h3, k⟩ := h.blk
  have c0 : w.cell? ⟨y, 0, none⟩ = some (.slice (some ⟨gl, 0, none⟩) d.l.length cl) := k.cell 0
  clear k h2 h3
  by_cases hx : d.has i = true
  · have hxx : 0 ≤ i ∧ i < d.l.length := by unfold DSt.has at hx; exact of_decide_eq_true hx
    obtain ⟨j, rfl⟩ := Int.eq_ofNat_of_zero_le hxx.1
    have hj : j < d.l.length := by omega
    have hjI : (j : Int) < (d.l.length : Int) := by omega
    by_cases hl : bs.length = 64
    · have hln : ((bs.length : Int) != 64) = false := by rw [hl]; rfl
      by_cases hs : d.stops = true
      · rw [show d.chgE = 70 from if_pos hs] at HC
        have HE := Lib.hid (show d.wrE j bs = 70 ∧ d.wrote j bs = d.chg from ⟨by unfold DSt.wrE; rw [if_pos hx, if_pos hl]; exact if_pos hs, by unfold DSt.wrote; rw [if_pos ⟨hx, hl⟩, if_pos hs]⟩)
        clear h hv hx hl hs hxx h1
        rw [HE.out.1, HE.out.2]
        go_enter Try.func47, Try.ntmps47
        go_wp2_with fail
        refine HC.out.mono ?_
        rintro e w1 ⟨rfl, hD, hO⟩
        go_wp2
        go_ret
        exact ⟨rfl, hD, hO.mono (by simp)⟩
      · rw [show d.chgE = 0 from if_neg hs] at HC
        have HE := Lib.hid (show d.wrE j bs = 0 ∧ d.wrote j bs = { d.chg with l := d.l.modify j fun s => s.wrote bs } from ⟨by unfold DSt.wrE; rw [if_pos hx, if_pos hl]; exact if_neg hs, by unfold DSt.wrote; rw [if_pos ⟨hx, hl⟩, if_neg hs]; rfl⟩)
        have hg : d.l[j]? = some d.l[j] := List.getElem?_eq_getElem hj
        have HLL := Lib.hid (chg_l d)
        have HL := Lib.hid hl
        generalize d.l[j] = s at *
        have HG := Lib.hid hg
        rw [HE.out.1, HE.out.2]
        clear h hv hx hl hs hxx h1 hg
        go_enter Try.func47, Try.ntmps47
        go_wp2_with fail
        refine HC.out.mono ?_
        rintro e w1 ⟨rfl, hD, hO⟩
        have hV1 := HV.out.noY hO HD.out.noU8
        obtain ⟨cl, ck, cw, h1, h2, h3, k⟩ := hD.blk
        rw [HLL.out] at k h1 h2 h3
        obtain ⟨c1, k1, r1⟩ := hD.rl
        obtain ⟨c2, k2, r2⟩ := hD.rw
        rw [HLL.out] at r1 r2
        obtain ⟨uo, huo, _⟩ := r1 j s.now (by rw [List.getElem?_map, HG.out]; rfl)
        have huw := r2 j s.waits (by rw [List.getElem?_map, HG.out]; rfl)
        have HUO := Lib.hid huo
        have HUW := Lib.hid huw
        clear r1 r2 huo huw
        have n1 : gl ≠ y := Blk.ne_ k1 k (by decide)
        have n2 : gl ≠ gw := Blk.ne_ k1 k2 (by decide)
        have HN1 := Lib.hid n1
        have HN2 := Lib.hid n2
        clear n1 n2
        have hbE : Below w1.heap.size w1 (w1.alloc (.cells #[] 5)) := (Below.refl _ _).alloc (Nat.le_refl _) _
        have hown0 : (w1.alloc (.cells #[] 5)).ownsRow w1.heap.size 5 1 (.slice (some ⟨w1.heap.size, 0, none⟩) 0 0) 0 [] :=
          World.ownsRow_lit (base := w1.heap.size) (e := 5) (size := 1) w1 #[] 0 (Nat.le_refl _) (by simp [maxLen]) (by simp)
        have hsE := (hV1.below hbE (Nat.le_refl _))
        have q0 : w1.cell? ⟨y, 0, none⟩ = some (.slice (some ⟨gl, 0, none⟩) d.l.length cl) := k.cell 0
        have q2 : w1.cell? ⟨y, 2, none⟩ = some (.slice (some ⟨gw, 0, none⟩) d.l.length cw) := k.cell 2
        have e0 : (w1.alloc (.cells #[] 5)).cell? ⟨y, 0, none⟩ = some (.slice (some ⟨gl, 0, none⟩) d.l.length cl) := (k.alloc _).cell 0
        have e2 : (w1.alloc (.cells #[] 5)).cell? ⟨y, 2, none⟩ = some (.slice (some ⟨gw, 0, none⟩) d.l.length cw) := (k.alloc _).cell 2
        have HDD := Lib.hid hD
        have HO1 := Lib.hid hO
        have HK := Lib.hid k
        have HK1 := Lib.hid k1
        have HK2 := Lib.hid k2
        have HOW := Lib.hid (show (w1.alloc (.cells #[] 5)).drew.ownsRow w1.heap.size 5 1 (.slice (some ⟨w1.heap.size, 0, none⟩) 0 0) 0 [] from hown0)
        have HSE := Lib.hid (show Sl (w1.alloc (.cells #[] 5)).drew _ _ from hsE)
        have HBE := Lib.hid hbE
        clear hD hO hV1 k k1 k2 h1 h2 h3 hown0 hsE hbE
        go_wp2
        go_region_law (refine step_append_bytes rfl (.tmp 39) (.tmp 40) rfl w1.heap.size _ 0 [] rfl HOW.out (.slice va bs.length vc) bs rfl HSE.out (by have := HL.out; omega) (by simp) ?_; intro x5 w5 hown5 hg5; have hb5 := below_grown HBE.out.drew HOW.out (Nat.le_refl _) (by simp) hg5; have HX5 := Lib.hid (show OB w5 w1.heap.size x5 bs from by unfold OB; simpa using hown5); obtain ⟨xa, xn, xc, rfl⟩ := HX5.out.sl.val; clear hown5 hg5; have y5 := HK.out.belowS hb5; have l5 := HK1.out.belowS hb5; have v5 := HK2.out.belowS hb5; have t0 : w5.cell? ⟨y, 0, none⟩ = some (.slice (some ⟨gl, 0, none⟩) d.l.length cl) := y5.cell 0; have t2 : w5.cell? ⟨y, 2, none⟩ = some (.slice (some ⟨gw, 0, none⟩) d.l.length cw) := y5.cell 2; have s1 : w5.cell? ⟨gl, j, none⟩ = some uo := (l5.cell j).trans HUO.out; have s2 := l5.frozen j; have v6 := v5.far (p := ⟨gl, j, none⟩) HN2.out.symm (.slice xa xn xc); have y6 := y5.far (p := ⟨gl, j, none⟩) HN1.out.symm (.slice xa xn xc); have t6 : (w5.setCell ⟨gl, j, none⟩ (.slice xa xn xc)).cell? ⟨y, 2, none⟩ = some (.slice (some ⟨gw, 0, none⟩) d.l.length cw) := y6.cell 2; have s3 : (w5.setCell ⟨gl, j, none⟩ (.slice xa xn xc)).cell? ⟨gw, j, none⟩ = some (.bool s.waits) := (v6.cell j).trans HUW.out; have s4 := v6.frozen j; have HB5 := Lib.hid hb5; clear hb5 y5 l5 v5 v6 y6)
        all_goals
          have so := HDD.out.ok s (List.mem_of_getElem? (show d.chg.l[j]? = some s from by rw [HLL.out]; exact HG.out))
          have hF := (HDD.out.below HB5.out).setNow (s := s) (by rw [HLL.out]; exact HG.out) (HX5.out.base (Nat.zero_le _)) true ⟨HL.out, so.2.1, hB, so.2.2.2.1, fun e => by cases e⟩
          rw [HLL.out] at hF
          have HF := Lib.hid (show RDev ((w5.setCell ⟨gl, j, none⟩ (.slice xa xn xc)).setCell ⟨gw, j, none⟩ (.bool true)) y gl gk gw { d.chg with l := d.l.modify j fun s => s.wrote bs } from by rw [modify_eq_set _ HG.out]; exact hF)
          have HO := Lib.hid (show Only [y, gl, gw] w ((w5.setCell ⟨gl, j, none⟩ (.slice xa xn xc)).setCell ⟨gw, j, none⟩ (.bool true)) from
            (HO1.out.mono (by simp)).trans ((Only.of_below _ HB5.out).trans ((Only.setCell _ _ (by simp) _).trans (Only.setCell _ _ (by simp) _))))
          clear so hF t0 t2 s1 s2 t6 s3 s4
          go_wp2
          go_ret
          exact ⟨rfl, HF.out, HO.out⟩
    · have hln : ((bs.length : Int) != 64) = true := by rw [bne_iff_ne]; omega
      have HE := Lib.hid (show d.wrE j bs = 1 ∧ d.wrote j bs = d from ⟨by unfold DSt.wrE; rw [if_pos hx, if_neg hl], by unfold DSt.wrote; rw [if_neg (fun q => hl q.2)]⟩)
      clear h hv hx hl hxx h1
      rw [HE.out.1, HE.out.2]
      go_enter Try.func47, Try.ntmps47
      go_wp2
      go_ret
      exact ⟨rfl, HD.out, Only.refl _ _⟩
  · have HE := Lib.hid (show d.wrE i bs = 1 ∧ d.wrote i bs = d from ⟨by unfold DSt.wrE; rw [if_neg hx], by unfold DSt.wrote; rw [if_neg (fun q => hx q.1)]⟩)
    have hy : i < 0 ∨ (d.l.length : Int) ≤ i := by
      unfold DSt.has at hx
      rw [decide_eq_true_eq] at hx
      omega
    rw [HE.out.1, HE.out.2]
    clear h hv hx h1
    rcases hy with hy | hy
    · go_enter Try.func47, Try.ntmps47
      go_wp2
      go_ret
      exact ⟨rfl, HD.out, Only.refl _ _⟩
    · have hz : ¬ i < 0 := by omega
      go_enter Try.func47, Try.ntmps47
      go_wp2
      go_ret
      exact ⟨rfl, HD.out, Only.refl _ _⟩

end Go.Proofs.Yteaimjfpmacgeaa
