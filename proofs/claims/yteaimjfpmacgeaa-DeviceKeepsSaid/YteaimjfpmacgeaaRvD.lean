/- The reference's device: Sync. -/
import Derived.Test.YteaimjfpmacgeaaRvC
import Derived.Deep.RegionHeld3
namespace Go.Proofs.Yteaimjfpmacgeaa
open Go.RowKit
set_option linter.unusedVariables false

/-- One sector's text and its waiting are settled. -/
theorem RDev.settle1 {w : World} {y gl gk gw : Nat} {d : DSt} (h : RDev w y gl gk gw d) {j : Nat} {s : Sec} (hj : d.l[j]? = some s) {u : Value} (hu : OB w 0 u s.now) :
    RDev ((w.setCell ⟨gk, j, none⟩ u).setCell ⟨gw, j, none⟩ (.bool false)) y gl gk gw { d with l := d.l.set j s.settled } := by
  have hjl : j < d.l.length := (List.getElem?_eq_some_iff.1 hj).1
  obtain ⟨cl, ck, cw, h1, h2, h3, k⟩ := h.blk
  obtain ⟨c1, k1⟩ := h.rl.typ
  obtain ⟨c2, k2⟩ := h.rk.typ
  obtain ⟨c3, k3⟩ := h.rw.typ
  have hne := h.ne
  have n1 : y ≠ gk := Blk.ne_ k k2 (by decide)
  have n2 : y ≠ gw := Blk.ne_ k k3 (by decide)
  have n3 : gk ≠ gw := Blk.ne_ k2 k3 (by decide)
  have n4 : gl ≠ gw := Blk.ne_ k1 k3 (by decide)
  have hr1 := h.rk.set j hu (by rw [List.length_map]; exact hjl)
  have hk1 := h.rl.only (Only.setCell [gk] w (p := ⟨gk, j, none⟩) (by simp) u) (fun q hq c e => by
    obtain rfl : q = gk := by simpa using hq
    exact Blk.ne_ e k2 (by decide) rfl) (by simp; exact fun e => hne e)
  have hw1 := h.rw.only (Only.setCell [gk] w (p := ⟨gk, j, none⟩) (by simp) u) (by simp; exact fun e => n3 e.symm)
  have k3' := k3.far (p := ⟨gk, j, none⟩) (fun e => n3 e.symm) u
  have hf : ∀ q ∈ [gw], ∀ c, ¬ Blk (w.setCell ⟨gk, j, none⟩ u) q 5 c := fun q hq c e => by
    obtain rfl : q = gw := by simpa using hq
    exact Blk.ne_ e k3' (by decide) rfl
  have ho2 := Only.setCell [gw] (w.setCell ⟨gk, j, none⟩ u) (p := ⟨gw, j, none⟩) (by simp) (.bool false)
  have hok : s.settled.ok := settled_ok (h.ok s (List.mem_of_getElem? hj))
  refine ⟨⟨cl, ck, cw, by rw [List.length_set]; exact h1, by rw [List.length_set]; exact h2, by rw [List.length_set]; exact h3, ?_⟩, ?_, ?_, ?_, hne, by rw [List.length_set]; exact h.pos, h.burns, set_ok h.ok hok⟩
  · rw [List.length_set]
    exact (k.far (p := ⟨gk, j, none⟩) n1 u).far (p := ⟨gw, j, none⟩) n2 (.bool false)
  · rw [List.map_set]
    have e : (d.l.map Sec.now).set j s.now = d.l.map Sec.now := by
      apply List.ext_getElem?; intro m
      by_cases q : j = m
      · subst q; rw [List.getElem?_set_self (by rw [List.length_map]; exact hjl), List.getElem?_map, hj]; rfl
      · rw [List.getElem?_set_ne q]
    show TRow _ gl ((d.l.map Sec.now).set j s.now)
    rw [e]; exact hk1.only ho2 hf (by simp; exact n4)
  · rw [List.map_set]; exact hr1.only ho2 hf (by simp; exact n3)
  · rw [List.map_set]; exact hw1.set j false (by rw [List.length_map]; exact hjl)
def DSt.withL (d : DSt) (l : List Sec) : DSt := { d with l := l }
/-- What is there to be read of one sector. -/
structure RAt (w : World) (y gl gk gw j cl ck cw n : Nat) (s : Sec) (un uk : Value) : Prop where
  y0 : w.cell? ⟨y, 0, none⟩ = some (.slice (some ⟨gl, 0, none⟩) n cl)
  y1 : w.cell? ⟨y, 1, none⟩ = some (.slice (some ⟨gk, 0, none⟩) n ck)
  y2 : w.cell? ⟨y, 2, none⟩ = some (.slice (some ⟨gw, 0, none⟩) n cw)
  l0 : w.cell? ⟨gl, j, none⟩ = some un
  k0 : w.cell? ⟨gk, j, none⟩ = some uk
  w0 : w.cell? ⟨gw, j, none⟩ = some (.bool s.waits)
  fl : w.frozen? ⟨gl, j, none⟩ = false
  fk : w.frozen? ⟨gk, j, none⟩ = false
  fw : w.frozen? ⟨gw, j, none⟩ = false
  on : OB w 0 un s.now
  ok : OB w 0 uk s.kept
theorem RDev.at_ {w : World} {y gl gk gw : Nat} {d : DSt} (h : RDev w y gl gk gw d) {j : Nat} {s : Sec} (hj : d.l[j]? = some s) : ∃ cl ck cw na nn nc ka kn kc, (d.l.length ≤ cl ∧ d.l.length ≤ ck ∧ d.l.length ≤ cw) ∧ RAt w y gl gk gw j cl ck cw d.l.length s (.slice na nn nc) (.slice ka kn kc) := by
  obtain ⟨cl, ck, cw, h1, h2, h3, k⟩ := h.blk
  obtain ⟨c1, k1, r1⟩ := h.rl
  obtain ⟨c2, k2, r2⟩ := h.rk
  obtain ⟨c3, k3, r3⟩ := h.rw
  obtain ⟨u, hu, hou⟩ := r1 j s.now (by rw [List.getElem?_map, hj]; rfl)
  obtain ⟨v, hv, hov⟩ := r2 j s.kept (by rw [List.getElem?_map, hj]; rfl)
  obtain ⟨na, nn, nc, rfl⟩ := hou.sl.val
  obtain ⟨ka, kn, kc, rfl⟩ := hov.sl.val
  exact ⟨cl, ck, cw, na, nn, nc, ka, kn, kc, ⟨h1.1, h2.1, h3.1⟩, k.cell 0, k.cell 1, k.cell 2, (k1.cell j).trans hu, (k2.cell j).trans hv, (k3.cell j).trans (r3 j s.waits (by rw [List.getElem?_map, hj]; rfl)), k1.frozen j, k2.frozen j, k3.frozen j, hou, hov⟩
theorem RDev.nes {w : World} {y gl gk gw : Nat} {d : DSt} (h : RDev w y gl gk gw d) : y ≠ gl ∧ y ≠ gk ∧ y ≠ gw ∧ gl ≠ gw ∧ gk ≠ gw ∧ gl ≠ gk := by
  obtain ⟨cl, ck, cw, h1, h2, h3, k⟩ := h.blk
  obtain ⟨c1, k1⟩ := h.rl.typ
  obtain ⟨c2, k2⟩ := h.rk.typ
  obtain ⟨c3, k3⟩ := h.rw.typ
  exact ⟨Blk.ne_ k k1 (by decide), Blk.ne_ k k2 (by decide), Blk.ne_ k k3 (by decide), Blk.ne_ k1 k3 (by decide), Blk.ne_ k2 k3 (by decide), h.ne⟩
/-- Another cell than the one that is stored to. -/
theorem far_ {w : World} {p q : Addr} {u v : Value} (h : w.cell? p = some v) (hn : q.block ≠ p.block) : (w.setCell q u).cell? p = some v := by
  rw [World.cell?_setCell_other _ _ _ _ (fun e => hn (by rw [e]))]; exact h
theorem farF_ {w : World} {p q : Addr} {u : Value} (h : w.frozen? p = false) (hn : q.block ≠ p.block) : (w.setCell q u).frozen? p = false :=
  (World.frozen?_of_block (w := w) (Below.heap_setCell w q u p.block (fun e => hn e.symm))).trans h

set_option maxRecDepth 100000 in
set_option maxHeartbeats 2000000 in
theorem rsync_any (w : World) (y gl gk gw : Nat) (d : DSt) (h : RDev w y gl gk gw d) :
    Calls Try.prog 48 #[.pointer (some ⟨y, 0, none⟩)] w fun e w' => e = .returned (.int .i64 d.chgE) ∧ RDev w' y gl gk gw d.synced ∧ Only [y, gk, gw] w w' := by
  have HC := Lib.hid (rburn_any w y gl gk gw d h)
  have HLL := Lib.hid (chg_l d)
  by_cases hs : d.stops = true
  · rw [show d.chgE = 70 from if_pos hs] at HC ⊢
    rw [show d.synced = d.chg from if_pos hs]
    clear hs h
    go_enter Try.func48, Try.ntmps48
    go_wp2_with fail
    refine HC.out.mono ?_
    rintro e w1 ⟨rfl, hD, hO⟩
    go_wp2
    go_ret
    exact ⟨rfl, hD, hO.mono (by simp)⟩
  · rw [show d.chgE = 0 from if_neg hs] at HC ⊢
    obtain ⟨d1, hd1⟩ : ∃ d1, d1 = d.chg := ⟨_, rfl⟩
    rw [show d.synced = d1.withL (d.l.mapIdx fun _ s => s.settled) from by rw [hd1]; exact if_neg hs]
    rw [← hd1] at HC HLL
    have hn := h.pos.2
    clear hs h hd1
    go_enter Try.func48, Try.ntmps48
    go_wp2_with fail
    refine HC.out.mono ?_
    rintro e w1 ⟨rfl, hD, hO⟩
    obtain ⟨cl0, ck0, cw0, h1, h2, h3, k⟩ := hD.blk
    rw [HLL.out] at h1 h2 h3 k
    have c0 : w1.cell? ⟨y, 0, none⟩ = some (.slice (some ⟨gl, 0, none⟩) d.l.length cl0) := k.cell 0
    have HD := Lib.hid hD
    have HO := Lib.hid hO
    clear hD hO k h1 h2 h3
    go_wp2
    go_loopw [4, 15] (fun _ i wr => ∃ k : Nat, k ≤ d.l.length ∧ i = .int .i64 k ∧ RDev wr y gl gk gw (d1.withL (upN (fun _ s => Sec.settled s) d.l k)) ∧ Only [gk, gw] w1 wr) (fun _ i _ => d.l.length - (intOf i).toNat)
    case atStart => exact ⟨0, by omega, rfl, by rw [upN_zero, ← HLL.out]; exact HD.out, Only.refl _ _⟩
    case round =>
      obtain ⟨k, hk, rfl, hr, ho⟩ := hrel
      by_cases hlt : k < d.l.length
      · have hkI : (k : Int) < (d.l.length : Int) := by omega
        have hg : d.l[k]? = some d.l[k] := List.getElem?_eq_getElem hlt
        have hU := upN_set (fun _ s => Sec.settled s) hg
        have hg2 := upN_at (fun _ s => Sec.settled s) hg
        obtain ⟨cl, ck, cw, na, nn, nc, ka, kn, kc, hcs, hA⟩ := hr.at_ hg2
        have hS1 := hr.settle1 hg2 hA.on
        have hnes := hr.nes
        generalize d.l[k] = s at *
        rw [show (d1.withL (upN (fun _ s => Sec.settled s) d.l k)).l.length = d.l.length from upN_len _ _ _] at hA hcs
        have HU := Lib.hid hU
        have HS1 := Lib.hid (show RDev ((wr.setCell ⟨gk, k, none⟩ (.slice na nn nc)).setCell ⟨gw, k, none⟩ (.bool false)).drew y gl gk gw (d1.withL (upN (fun _ s => Sec.settled s) d.l (k + 1))) from by rw [← HU.out]; exact hS1.only (bs := []) ⟨rfl, rfl, rfl, Nat.le_refl _, fun _ _ _ => rfl⟩ (by intro q hq; cases hq))
        have HOO := Lib.hid (show Only [gk, gw] w1 ((wr.setCell ⟨gk, k, none⟩ (.slice na nn nc)).setCell ⟨gw, k, none⟩ (.bool false)).drew from (ho.trans ((Only.setCell _ _ (by simp) _).trans (Only.setCell _ _ (by simp) _))).drew)
        have hwk : wrap64 ((k : Int) + 1) = ((k + 1 : Nat) : Int) := by rw [wrap64]; omega
        have y0 : wr.drew.cell? ⟨y, 0, none⟩ = some (.slice (some ⟨gl, 0, none⟩) d.l.length cl) := hA.y0
        have y1 : wr.drew.cell? ⟨y, 1, none⟩ = some (.slice (some ⟨gk, 0, none⟩) d.l.length ck) := hA.y1
        have y2 : wr.drew.cell? ⟨y, 2, none⟩ = some (.slice (some ⟨gw, 0, none⟩) d.l.length cw) := hA.y2
        have l0 : wr.drew.cell? ⟨gl, k, none⟩ = some (.slice na nn nc) := hA.l0
        have k0 : wr.drew.cell? ⟨gk, k, none⟩ = some (.slice ka kn kc) := hA.k0
        have v0 : wr.drew.cell? ⟨gw, k, none⟩ = some (.bool s.waits) := hA.w0
        have fk : wr.drew.frozen? ⟨gk, k, none⟩ = false := hA.fk
        have fw : wr.drew.frozen? ⟨gw, k, none⟩ = false := hA.fw
        have v1 : (wr.drew.setCell ⟨gk, k, none⟩ (.slice na nn nc)).cell? ⟨gw, k, none⟩ = some (.bool s.waits) := far_ v0 hnes.2.2.2.2.1
        have g1 : (wr.drew.setCell ⟨gk, k, none⟩ (.slice na nn nc)).frozen? ⟨gw, k, none⟩ = false := farF_ fw hnes.2.2.2.2.1
        have HG0 := Lib.hid (show wr.drew.cell? ⟨y, 0, none⟩ = some (.slice (some ⟨gl, 0, none⟩) d.l.length cl) ∧ wr.drew.cell? ⟨y, 1, none⟩ = some (.slice (some ⟨gk, 0, none⟩) d.l.length ck) ∧ wr.drew.cell? ⟨y, 2, none⟩ = some (.slice (some ⟨gw, 0, none⟩) d.l.length cw) ∧ wr.drew.cell? ⟨gl, k, none⟩ = some (.slice na nn nc) from ⟨y0, y1, y2, l0⟩)
        have HG1 := Lib.hid (show (wr.drew.setCell ⟨gk, k, none⟩ (.slice na nn nc)).cell? ⟨y, 0, none⟩ = some (.slice (some ⟨gl, 0, none⟩) d.l.length cl) ∧ (wr.drew.setCell ⟨gk, k, none⟩ (.slice na nn nc)).cell? ⟨y, 1, none⟩ = some (.slice (some ⟨gk, 0, none⟩) d.l.length ck) ∧ (wr.drew.setCell ⟨gk, k, none⟩ (.slice na nn nc)).cell? ⟨y, 2, none⟩ = some (.slice (some ⟨gw, 0, none⟩) d.l.length cw) ∧ (wr.drew.setCell ⟨gk, k, none⟩ (.slice na nn nc)).cell? ⟨gl, k, none⟩ = some (.slice na nn nc) from
          ⟨far_ y0 hnes.2.1.symm, far_ y1 hnes.2.1.symm, far_ y2 hnes.2.1.symm, far_ l0 hnes.2.2.2.2.2.symm⟩)
        have HG2 := Lib.hid (show ((wr.drew.setCell ⟨gk, k, none⟩ (.slice na nn nc)).setCell ⟨gw, k, none⟩ (.bool false)).cell? ⟨y, 0, none⟩ = some (.slice (some ⟨gl, 0, none⟩) d.l.length cl) ∧ ((wr.drew.setCell ⟨gk, k, none⟩ (.slice na nn nc)).setCell ⟨gw, k, none⟩ (.bool false)).cell? ⟨y, 1, none⟩ = some (.slice (some ⟨gk, 0, none⟩) d.l.length ck) ∧ ((wr.drew.setCell ⟨gk, k, none⟩ (.slice na nn nc)).setCell ⟨gw, k, none⟩ (.bool false)).cell? ⟨y, 2, none⟩ = some (.slice (some ⟨gw, 0, none⟩) d.l.length cw) ∧ ((wr.drew.setCell ⟨gk, k, none⟩ (.slice na nn nc)).setCell ⟨gw, k, none⟩ (.bool false)).cell? ⟨gl, k, none⟩ = some (.slice na nn nc) from
          ⟨far_ HG1.out.1 hnes.2.2.1.symm, far_ HG1.out.2.1 hnes.2.2.1.symm, far_ HG1.out.2.2.1 hnes.2.2.1.symm, far_ HG1.out.2.2.2 hnes.2.2.2.1.symm⟩)
        have p1 : ¬ gk = gw := hnes.2.2.2.2.1
        have p2 : ¬ gw = gk := fun e => hnes.2.2.2.2.1 e.symm
        have z1 : wr.cell? ⟨gw, k, none⟩ = some (.bool s.waits) := hA.w0
        have z2 : wr.frozen? ⟨gw, k, none⟩ = false := hA.fw
        have z0 : wr.cell? ⟨y, 0, none⟩ = some (.slice (some ⟨gl, 0, none⟩) d.l.length cl) := hA.y0
        clear hg hU hg2 hA hS1 hnes hr ho hcs
        go_wp2
        go_region_held3 (fun w' => w'.cell? ⟨y, 0, none⟩ = some (.slice (some ⟨gl, 0, none⟩) d.l.length cl) ∧ w'.cell? ⟨y, 1, none⟩ = some (.slice (some ⟨gk, 0, none⟩) d.l.length ck) ∧ w'.cell? ⟨y, 2, none⟩ = some (.slice (some ⟨gw, 0, none⟩) d.l.length cw) ∧ w'.cell? ⟨gl, k, none⟩ = some (.slice na nn nc)) (first | exact HG0.out | exact HG1.out | exact HG2.out) (first | fail)
        all_goals
          go_wp2
          exact ⟨⟨k + 1, hlt, rfl, HS1.out, HOO.out⟩, by simp [intOf]; omega⟩
      · obtain rfl : k = d.l.length := by omega
        have hkI : ¬ (d.l.length : Int) < (d.l.length : Int) := by omega
        rw [upN_all _ _ (Nat.le_refl _)] at hr
        have HR := Lib.hid hr
        have ho2 := (HO.out.mono (cs := [y, gk, gw]) (by simp)).trans (ho.mono (by simp))
        clear hr ho
        go_wp2
        go_ret
        exact ⟨rfl, HR.out, ho2⟩

end Go.Proofs.Yteaimjfpmacgeaa
