
/- A device: is there one, a sector's number, a change, the fuse. -/
import Derived.Test.YtgfkejecigefbaaDoorDvA
namespace Go.Proofs.YtgfkejecigefbaaDoor
open Go.RowKit
set_option linter.unusedVariables false

abbrev devCells (b cap : Nat) (d : DSt) : Array Value := #[.slice (some ⟨b, 0, none⟩) d.l.length cap, .bool d.dead, .bool d.fused, .int .i64 d.burns, .int .i64 d.changes]

theorem dnone_any (w : World) (g b : Nat) (d : DSt) (h : Dev w g b d) :
    Calls Tryd.prog 42 #[.pointer (some ⟨g, 0, none⟩)] w fun e w' => e = .returned (.bool false) ∧ w = w' := by
  obtain ⟨cap, h1, h2, k⟩ := h.blk
  have c0 : w.cell? ⟨g, 0, none⟩ = some (.slice (some ⟨b, 0, none⟩) d.l.length cap) := k.cell 0
  have hz : ((d.l.length : Int) == 0) = false := by have := h.pos; rw [beq_eq_false_iff_ne]; omega
  clear k h
  go_enter Tryd.func42, Tryd.ntmps42
  go_wp2
  go_ret
  exact ⟨rfl, rfl⟩

/-- Is this a sector's number? -/
def DSt.has (d : DSt) (i : Int) : Bool := decide (0 ≤ i ∧ i < d.l.length)
def DSt.atE (d : DSt) (i : Int) : Int := if d.has i = true then 0 else 1

set_option maxHeartbeats 400000 in
theorem dat_any (w : World) (g b : Nat) (d : DSt) (i : Int) (h : Dev w g b d) :
    Calls Tryd.prog 86 #[.pointer (some ⟨g, 0, none⟩), .int .i64 i] w fun e w' => e = .returned (.int .i64 (d.atE i)) ∧ w = w' := by
  have HN := Lib.hid (dnone_any w g b d h)
  obtain ⟨cap, h1, h2, k⟩ := h.blk
  have c0 : w.cell? ⟨g, 0, none⟩ = some (.slice (some ⟨b, 0, none⟩) d.l.length cap) := k.cell 0
  clear k h
  by_cases hx : i < 0
  · have HE := Lib.hid (show d.atE i = 1 from if_neg (by unfold DSt.has; rw [decide_eq_true_eq]; omega))
    go_enter Tryd.func86, Tryd.ntmps86
    go_wp2_with fail
    refine HN.out.mono ?_
    rintro e w1 ⟨rfl, rfl⟩
    go_wp2
    go_ret
    exact ⟨ret_int HE.out.symm, rfl⟩
  · by_cases hy : (d.l.length : Int) ≤ i
    · have HE := Lib.hid (show d.atE i = 1 from if_neg (by unfold DSt.has; rw [decide_eq_true_eq]; omega))
      go_enter Tryd.func86, Tryd.ntmps86
      go_wp2_with fail
      refine HN.out.mono ?_
      rintro e w1 ⟨rfl, rfl⟩
      go_wp2
      go_ret
      exact ⟨ret_int HE.out.symm, rfl⟩
    · have HE := Lib.hid (show d.atE i = 0 from if_pos (by unfold DSt.has; rw [decide_eq_true_eq]; omega))
      go_enter Tryd.func86, Tryd.ntmps86
      go_wp2_with fail
      refine HN.out.mono ?_
      rintro e w1 ⟨rfl, rfl⟩
      go_wp2
      go_ret
      exact ⟨ret_int HE.out.symm, rfl⟩

/-- A change: may it be done, and what becomes of the device? -/
def DSt.stops (d : DSt) : Bool := d.dead || (d.fused && d.burns == 0)
def DSt.chgE (d : DSt) : Int := if d.stops = true then 70 else 0
def DSt.chg (d : DSt) : DSt := if d.stops = true then { d with dead := true } else { d with burns := wrap64 (d.burns - 1), changes := wrap64 (d.changes + 1) }
theorem chg_l (d : DSt) : d.chg.l = d.l := by unfold DSt.chg; split <;> rfl

theorem Dev.fields {w : World} {g b : Nat} {d : DSt} (h : Dev w g b d) (d' : DSt) (hl : d'.l = d.l) {w' : World} (hk : ∀ cap, Blk w g 43 (devCells b cap d) → Blk w' g 43 (devCells b cap d')) (ho : Only [g] w w') : Dev w' g b d' := by
  have hne := h.ne
  obtain ⟨⟨cap, h1, h2, k⟩, r, p, o⟩ := h
  refine ⟨⟨cap, by rw [hl]; exact h1, h2, hk cap k⟩, ?_, by rw [hl]; exact p, by rw [hl]; exact o⟩
  rw [hl]
  exact r.only ho (by simp; exact fun e => hne e.symm)

set_option maxHeartbeats 1000000 in
theorem dchange_any (w : World) (g b : Nat) (d : DSt) (h : Dev w g b d) :
    Calls Tryd.prog 87 #[.pointer (some ⟨g, 0, none⟩)] w fun e w' => e = .returned (.int .i64 d.chgE) ∧ Dev w' g b d.chg ∧ Only [g] w w' := by
  have HD := Lib.hid h
  obtain ⟨cap, h1, h2, k⟩ := h.blk
  obtain ⟨l, dead, fused, burns, changes⟩ := d
  have c1 : w.cell? ⟨g, 1, none⟩ = some (.bool dead) := k.cell 1
  have c2 : w.cell? ⟨g, 2, none⟩ = some (.bool fused) := k.cell 2
  have c3 : w.cell? ⟨g, 3, none⟩ = some (.int .i64 burns) := k.cell 3
  have c4 : w.cell? ⟨g, 4, none⟩ = some (.int .i64 changes) := k.cell 4
  have f1 := k.frozen 1
  have f3 := k.frozen 3
  have f4 := k.frozen 4
  clear k h
  have hset1 : Only [g] w (w.setCell ⟨g, 1, none⟩ (.bool true)) := Only.setCell _ _ (by simp) _
  have hset2 : Only [g] w ((w.setCell ⟨g, 3, none⟩ (.int .i64 (wrap64 (burns - 1)))).setCell ⟨g, 4, none⟩ (.int .i64 (wrap64 (changes + 1)))) := (Only.setCell _ _ (by simp) _).trans (Only.setCell _ _ (by simp) _)
  have HS1 := Lib.hid (show Dev (w.setCell ⟨g, 1, none⟩ (.bool true)) g b { l := l, dead := true, fused := fused, burns := burns, changes := changes } from
    HD.out.fields { l := l, dead := true, fused := fused, burns := burns, changes := changes } rfl (fun cap k => k.set_ 1 (.bool true)) hset1)
  have HS2 := Lib.hid (show Dev ((w.setCell ⟨g, 3, none⟩ (.int .i64 (wrap64 (burns - 1)))).setCell ⟨g, 4, none⟩ (.int .i64 (wrap64 (changes + 1)))) g b { l := l, dead := dead, fused := fused, burns := wrap64 (burns - 1), changes := wrap64 (changes + 1) } from
    HD.out.fields { l := l, dead := dead, fused := fused, burns := wrap64 (burns - 1), changes := wrap64 (changes + 1) } rfl (fun cap k => (k.set_ 3 (.int .i64 (wrap64 (burns - 1)))).set_ 4 (.int .i64 (wrap64 (changes + 1)))) hset2)
  have HO1 := Lib.hid hset1
  have HO2 := Lib.hid hset2
  clear hset1 hset2
  have d4 : (w.setCell ⟨g, 3, none⟩ (.int .i64 (wrap64 (burns - 1)))).cell? ⟨g, 4, none⟩ = some (.int .i64 changes) := (World.cell?_setCell_other _ _ _ _ (by simp)).trans c4
  cases fused with
  | true =>
    by_cases hz : burns = 0
    · subst hz
      go_enter Tryd.func87, Tryd.ntmps87
      go_wp2
      go_ret
      refine ⟨ret_int (by simp [DSt.chgE, DSt.stops]), ?_, HO1.out⟩
      have := HS1.out
      simpa [DSt.chg, DSt.stops] using this
    · have hzb : (burns == 0) = false := by rw [beq_eq_false_iff_ne]; exact hz
      have HZ := Lib.hid hzb
      cases dead with
      | true =>
        go_enter Tryd.func87, Tryd.ntmps87
        go_wp2
        go_ret
        refine ⟨ret_int (by simp [DSt.chgE, DSt.stops]), ?_, Only.refl _ _⟩
        have := HD.out
        simpa [DSt.chg, DSt.stops] using this
      | false =>
        clear hz
        go_enter Tryd.func87, Tryd.ntmps87
        go_wp2
        go_ret
        refine ⟨ret_int (by simp [DSt.chgE, DSt.stops, HZ.out]), ?_, HO2.out⟩
        have := HS2.out
        simpa [DSt.chg, DSt.stops, HZ.out] using this
  | false =>
    cases dead with
    | true =>
      go_enter Tryd.func87, Tryd.ntmps87
      go_wp2
      go_ret
      refine ⟨ret_int (by simp [DSt.chgE, DSt.stops]), ?_, Only.refl _ _⟩
      have := HD.out
      simpa [DSt.chg, DSt.stops] using this
    | false =>
      go_enter Tryd.func87, Tryd.ntmps87
      go_wp2
      go_ret
      refine ⟨ret_int (by simp [DSt.chgE, DSt.stops]), ?_, HO2.out⟩
      have := HS2.out
      simpa [DSt.chg, DSt.stops] using this

def fuseE (n : Int) : Int := if n < 0 then 1 else 0
def DSt.fuse (d : DSt) (n : Int) : DSt := if n < 0 then d else { d with fused := true, burns := n }
set_option maxHeartbeats 400000 in
theorem dfuse_any (w : World) (g b : Nat) (d : DSt) (n : Int) (h : Dev w g b d) :
    Calls Tryd.prog 19 #[.pointer (some ⟨g, 0, none⟩), .int .i64 n] w fun e w' => e = .returned (.int .i64 (fuseE n)) ∧ Dev w' g b (d.fuse n) ∧ Only [g] w w' := by
  have HD := Lib.hid h
  have HN := Lib.hid (dnone_any w g b d h)
  obtain ⟨cap, h1, h2, k⟩ := h.blk
  have c2 : w.cell? ⟨g, 2, none⟩ = some (.bool d.fused) := k.cell 2
  have c3 : w.cell? ⟨g, 3, none⟩ = some (.int .i64 d.burns) := k.cell 3
  have f2 := k.frozen 2
  have f3 := k.frozen 3
  clear k h
  have d3 : (w.setCell ⟨g, 2, none⟩ (.bool true)).cell? ⟨g, 3, none⟩ = some (.int .i64 d.burns) := (World.cell?_setCell_other _ _ _ _ (by simp)).trans c3
  have HO := Lib.hid (show Only [g] w ((w.setCell ⟨g, 2, none⟩ (.bool true)).setCell ⟨g, 3, none⟩ (.int .i64 n)) from (Only.setCell _ _ (by simp) _).trans (Only.setCell _ _ (by simp) _))
  have HS := Lib.hid (show Dev ((w.setCell ⟨g, 2, none⟩ (.bool true)).setCell ⟨g, 3, none⟩ (.int .i64 n)) g b { d with fused := true, burns := n } from HD.out.fields { d with fused := true, burns := n } rfl (fun cap k => (k.set_ 2 (.bool true)).set_ 3 (.int .i64 n)) HO.out)
  by_cases hn : n < 0
  · have HF := Lib.hid (show d.fuse n = d ∧ fuseE n = 1 from ⟨if_pos hn, if_pos hn⟩)
    go_enter Tryd.func19, Tryd.ntmps19
    go_wp2_with fail
    refine HN.out.mono ?_
    rintro e w1 ⟨rfl, rfl⟩
    go_wp2
    go_ret
    exact ⟨ret_int HF.out.2.symm, by rw [HF.out.1]; exact HD.out, Only.refl _ _⟩
  · have HF := Lib.hid (show d.fuse n = { d with fused := true, burns := n } ∧ fuseE n = 0 from ⟨if_neg hn, if_neg hn⟩)
    go_enter Tryd.func19, Tryd.ntmps19
    go_wp2_with fail
    refine HN.out.mono ?_
    rintro e w1 ⟨rfl, rfl⟩
    go_wp2
    go_ret
    exact ⟨ret_int HF.out.2.symm, by rw [HF.out.1]; exact HS.out, HO.out⟩

theorem ddead_any (w : World) (g b : Nat) (d : DSt) (h : Dev w g b d) :
    Calls Tryd.prog 38 #[.pointer (some ⟨g, 0, none⟩)] w fun e w' => e = .returned (.bool d.dead) ∧ w = w' := by
  have HN := Lib.hid (dnone_any w g b d h)
  obtain ⟨cap, h1, h2, k⟩ := h.blk
  have c1 : w.cell? ⟨g, 1, none⟩ = some (.bool d.dead) := k.cell 1
  clear k h
  go_enter Tryd.func38, Tryd.ntmps38
  go_wp2_with fail
  refine HN.out.mono ?_
  rintro e w1 ⟨rfl, rfl⟩
  go_wp2
  go_ret
  exact ⟨rfl, rfl⟩

theorem dchanges_any (w : World) (g b : Nat) (d : DSt) (h : Dev w g b d) :
    Calls Tryd.prog 69 #[.pointer (some ⟨g, 0, none⟩)] w fun e w' => e = .returned (.int .i64 d.changes) ∧ w = w' := by
  have HN := Lib.hid (dnone_any w g b d h)
  obtain ⟨cap, h1, h2, k⟩ := h.blk
  have c4 : w.cell? ⟨g, 4, none⟩ = some (.int .i64 d.changes) := k.cell 4
  clear k h
  go_enter Tryd.func69, Tryd.ntmps69
  go_wp2_with fail
  refine HN.out.mono ?_
  rintro e w1 ⟨rfl, rfl⟩
  go_wp2
  go_ret
  exact ⟨rfl, rfl⟩

end Go.Proofs.YtgfkejecigefbaaDoor
