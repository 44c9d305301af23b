/- The reference's device: what it holds, a change, the fuse. -/
import Derived.Test.YteaimjfpmacgeaaDvE
import Derived.Test.YteaimjfpmacgeaaDvC
namespace Go.Proofs.Yteaimjfpmacgeaa
open Go.RowKit
set_option linter.unusedVariables false

/-- A row of texts. -/
def TRow (w : World) (gl : Nat) (xs : List (List Int)) : Prop := ∃ cur : Array Value, Blk w gl 29 cur ∧ ∀ (i : Nat) (bs : List Int), xs[i]? = some bs → ∃ u : Value, cur[i]? = some u ∧ OB w 0 u bs
def BRow (w : World) (gw : Nat) (ws : List Bool) : Prop := ∃ cur : Array Value, Blk w gw 4 cur ∧ ∀ (i : Nat) (b : Bool), ws[i]? = some b → cur[i]? = some (Value.bool b)
/-- What the reference's device consists of. -/
def RFree (w : World) (bs : List Nat) : Prop := ∀ k ∈ bs, ∀ cur, ¬ Blk w k 5 cur ∧ ¬ Blk w k 29 cur ∧ ¬ Blk w k 4 cur ∧ ¬ Blk w k 87 cur
theorem TRow.only {w w' : World} {gl : Nat} {xs : List (List Int)} {bs : List Nat} (h : TRow w gl xs) (ho : Only bs w w') (hf : ∀ k ∈ bs, ∀ cur, ¬ Blk w k 5 cur) (hn : gl ∉ bs) : TRow w' gl xs := by
  obtain ⟨cur, k, hx⟩ := h
  exact ⟨cur, ho.blk k hn, fun i b hi => by
    obtain ⟨u, hu, hb⟩ := hx i b hi
    exact ⟨u, hu, hb.only ho hf⟩⟩
theorem BRow.only {w w' : World} {gw : Nat} {ws : List Bool} {bs : List Nat} (h : BRow w gw ws) (ho : Only bs w w') (hn : gw ∉ bs) : BRow w' gw ws := by
  obtain ⟨cur, k, hx⟩ := h
  exact ⟨cur, ho.blk k hn, hx⟩

def DSt.rB (d : DSt) : Int := if d.fused = true then d.burns else -1
abbrev rdCells (gl gk gw n cl ck cw : Nat) (d : DSt) : Array Value := #[.slice (some ⟨gl, 0, none⟩) n cl, .slice (some ⟨gk, 0, none⟩) n ck, .slice (some ⟨gw, 0, none⟩) n cw, .int .i64 d.rB, .bool d.dead, .int .i64 d.changes]
structure RDev (w : World) (y gl gk gw : Nat) (d : DSt) : Prop where
  blk : ∃ cl ck cw, (d.l.length ≤ cl ∧ cl ≤ 9223372036854775807) ∧ (d.l.length ≤ ck ∧ ck ≤ 9223372036854775807) ∧ (d.l.length ≤ cw ∧ cw ≤ 9223372036854775807) ∧ Blk w y 87 (rdCells gl gk gw d.l.length cl ck cw d)
  rl : TRow w gl (d.l.map Sec.now)
  rk : TRow w gk (d.l.map Sec.kept)
  rw : BRow w gw (d.l.map Sec.waits)
  ne : gl ≠ gk
  pos : 1 ≤ d.l.length ∧ d.l.length ≤ 16384
  burns : d.fused = true → 0 ≤ d.burns ∧ d.burns ≤ 9223372036854775807
  ok : ∀ s ∈ d.l, s.ok
theorem TRow.typ {w : World} {gl : Nat} {xs : List (List Int)} (h : TRow w gl xs) : ∃ cur, Blk w gl 29 cur := by obtain ⟨cur, k, _⟩ := h; exact ⟨cur, k⟩
theorem BRow.typ {w : World} {gl : Nat} {xs : List Bool} (h : BRow w gl xs) : ∃ cur, Blk w gl 4 cur := by obtain ⟨cur, k, _⟩ := h; exact ⟨cur, k⟩
theorem RDev.only {w w' : World} {y gl gk gw : Nat} {d : DSt} {bs : List Nat} (h : RDev w y gl gk gw d) (ho : Only bs w w') (hf : RFree w bs) : RDev w' y gl gk gw d := by
  obtain ⟨cl, ck, cw, h1, h2, h3, k⟩ := h.blk
  obtain ⟨c1, k1⟩ := h.rl.typ
  obtain ⟨c2, k2⟩ := h.rk.typ
  obtain ⟨c3, k3⟩ := h.rw.typ
  exact ⟨⟨cl, ck, cw, h1, h2, h3, ho.blk k fun hm => (hf _ hm _).2.2.2 k⟩, h.rl.only ho (fun k hk cur => (hf k hk cur).1) (fun hm => (hf _ hm _).2.1 k1), h.rk.only ho (fun k hk cur => (hf k hk cur).1) (fun hm => (hf _ hm _).2.1 k2), h.rw.only ho (fun hm => (hf _ hm _).2.2.1 k3), h.ne, h.pos, h.burns, h.ok⟩
theorem RDev.below {w w' : World} {y gl gk gw : Nat} {d : DSt} (h : RDev w y gl gk gw d) (hb : Below w.heap.size w w') : RDev w' y gl gk gw d := h.only (Only.of_below [] hb) (by intro k hk; cases hk)
/-- The fields alone are turned. -/
theorem RDev.fields {w : World} {y gl gk gw : Nat} {d : DSt} (h : RDev w y gl gk gw d) (d' : DSt) (hl : d'.l = d.l) (hbn : d'.fused = true → 0 ≤ d'.burns ∧ d'.burns ≤ 9223372036854775807) {w' : World}
    (hk : ∀ cl ck cw, Blk w y 87 (rdCells gl gk gw d.l.length cl ck cw d) → Blk w' y 87 (rdCells gl gk gw d.l.length cl ck cw d')) (ho : Only [y] w w') : RDev w' y gl gk gw d' := by
  obtain ⟨cl, ck, cw, h1, h2, h3, k⟩ := h.blk
  obtain ⟨c1, k1⟩ := h.rl.typ
  obtain ⟨c2, k2⟩ := h.rk.typ
  obtain ⟨c3, k3⟩ := h.rw.typ
  have n1 : ∀ k ∈ [y], ∀ cur, ¬ Blk w k 5 cur := fun q hq cur e => by
    obtain rfl : q = y := by simpa using hq
    exact Blk.ne_ e k (by decide) rfl
  have m1 : gl ∉ [y] := fun hm => Blk.ne_ k1 k (by decide) (by simpa using hm)
  have m2 : gk ∉ [y] := fun hm => Blk.ne_ k2 k (by decide) (by simpa using hm)
  have m3 : gw ∉ [y] := fun hm => Blk.ne_ k3 k (by decide) (by simpa using hm)
  obtain ⟨l', dead', fused', burns', changes'⟩ := d'
  subst hl
  exact ⟨⟨cl, ck, cw, h1, h2, h3, hk cl ck cw k⟩, h.rl.only ho n1 m1, h.rk.only ho n1 m2, h.rw.only ho m3, h.ne, h.pos, hbn, h.ok⟩

set_option maxHeartbeats 1000000 in
theorem rburn_any (w : World) (y gl gk gw : Nat) (d : DSt) (h : RDev w y gl gk gw d) :
    Calls Try.prog 54 #[.pointer (some ⟨y, 0, none⟩)] w fun e w' => e = .returned (.int .i64 d.chgE) ∧ RDev w' y gl gk gw d.chg ∧ Only [y] w w' := by
  have HD := Lib.hid h
  obtain ⟨cl, ck, cw, h1, h2, h3, k⟩ := h.blk
  have hbn := h.burns
  obtain ⟨l, dead, fused, burns, changes⟩ := d
  have c4 : w.cell? ⟨y, 4, none⟩ = some (.bool dead) := k.cell 4
  have c5 : w.cell? ⟨y, 5, none⟩ = some (.int .i64 changes) := k.cell 5
  have c3 : w.cell? ⟨y, 3, none⟩ = some (.int .i64 (DSt.rB { l := l, dead := dead, fused := fused, burns := burns, changes := changes })) := k.cell 3
  have f3 := k.frozen 3
  have f4 := k.frozen 4
  have f5 := k.frozen 5
  clear k h h1 h2 h3
  have hset1 : Only [y] w (w.setCell ⟨y, 4, none⟩ (.bool true)) := Only.setCell _ _ (by simp) _
  have HO1 := Lib.hid hset1
  have HS1 := Lib.hid (show RDev (w.setCell ⟨y, 4, none⟩ (.bool true)) y gl gk gw { l := l, dead := true, fused := fused, burns := burns, changes := changes } from
    HD.out.fields { l := l, dead := true, fused := fused, burns := burns, changes := changes } rfl hbn (fun cl ck cw k => k.set_ 4 (.bool true)) hset1)
  by_cases hst : DSt.stops { l := l, dead := dead, fused := fused, burns := burns, changes := changes } = true
  · have HE := Lib.hid (show DSt.chgE { l := l, dead := dead, fused := fused, burns := burns, changes := changes } = 70 ∧ DSt.chg { l := l, dead := dead, fused := fused, burns := burns, changes := changes } = { l := l, dead := true, fused := fused, burns := burns, changes := changes } from ⟨by unfold DSt.chgE; rw [if_pos hst], by unfold DSt.chg; rw [if_pos hst]⟩)
    rw [HE.out.1, HE.out.2]
    cases dead with
    | true =>
      clear hst hset1 hbn
      go_enter Try.func54, Try.ntmps54
      go_wp2
      go_ret
      exact ⟨rfl, HS1.out, HO1.out⟩
    | false =>
      have hz : fused = true ∧ burns = 0 := by simpa [DSt.stops] using hst
      obtain ⟨rfl, rfl⟩ := hz
      have c3' : w.cell? ⟨y, 3, none⟩ = some (.int .i64 0) := c3
      clear hst hset1 hbn c3
      go_enter Try.func54, Try.ntmps54
      go_wp2
      go_ret
      exact ⟨rfl, HS1.out, HO1.out⟩
  · have hd : dead = false := by
      cases dead
      · rfl
      · exact absurd rfl hst
    subst hd
    have HE := Lib.hid (show DSt.chgE { l := l, dead := false, fused := fused, burns := burns, changes := changes } = 0 ∧ DSt.chg { l := l, dead := false, fused := fused, burns := burns, changes := changes } = { l := l, dead := false, fused := fused, burns := wrap64 (burns - 1), changes := wrap64 (changes + 1) } from ⟨by unfold DSt.chgE; rw [if_neg hst], by unfold DSt.chg; rw [if_neg hst]⟩)
    rw [HE.out.1, HE.out.2]
    cases fused with
    | true =>
      have hb1 : burns ≠ 0 := by simpa [DSt.stops] using hst
      have hb2 : 0 ≤ burns ∧ burns ≤ 9223372036854775807 := hbn rfl
      have hw : wrap64 (burns - 1) = burns - 1 := by rw [wrap64]; omega
      have hzb : (burns == 0) = false := by rw [beq_eq_false_iff_ne]; exact hb1
      have hgt : (0 : Int) < burns := by omega
      have c3' : w.cell? ⟨y, 3, none⟩ = some (.int .i64 burns) := c3
      have d5 : (w.setCell ⟨y, 3, none⟩ (.int .i64 (burns - 1))).cell? ⟨y, 5, none⟩ = some (.int .i64 changes) := (World.cell?_setCell_other _ _ _ _ (by simp)).trans c5
      have HO2 := Lib.hid (show Only [y] w ((w.setCell ⟨y, 3, none⟩ (.int .i64 (burns - 1))).setCell ⟨y, 5, none⟩ (.int .i64 (wrap64 (changes + 1)))) from (Only.setCell _ _ (by simp) _).trans (Only.setCell _ _ (by simp) _))
      have HS2 := Lib.hid (show RDev ((w.setCell ⟨y, 3, none⟩ (.int .i64 (burns - 1))).setCell ⟨y, 5, none⟩ (.int .i64 (wrap64 (changes + 1)))) y gl gk gw { l := l, dead := false, fused := true, burns := wrap64 (burns - 1), changes := wrap64 (changes + 1) } from
        HD.out.fields { l := l, dead := false, fused := true, burns := wrap64 (burns - 1), changes := wrap64 (changes + 1) } rfl (fun _ => show 0 ≤ wrap64 (burns - 1) ∧ wrap64 (burns - 1) ≤ 9223372036854775807 from by rw [hw]; omega) (fun cl ck cw k => by rw [hw]; exact (k.set_ 3 (.int .i64 (burns - 1))).set_ 5 (.int .i64 (wrap64 (changes + 1)))) HO2.out)
      clear hst hset1 hbn c3 hb1 hb2
      go_enter Try.func54, Try.ntmps54
      go_wp2
      go_ret
      exact ⟨rfl, HS2.out, HO2.out⟩
    | false =>
      have c3' : w.cell? ⟨y, 3, none⟩ = some (.int .i64 (-1)) := c3
      have HO2 := Lib.hid (show Only [y] w (w.setCell ⟨y, 5, none⟩ (.int .i64 (wrap64 (changes + 1)))) from Only.setCell _ _ (by simp) _)
      have HS2 := Lib.hid (show RDev (w.setCell ⟨y, 5, none⟩ (.int .i64 (wrap64 (changes + 1)))) y gl gk gw { l := l, dead := false, fused := false, burns := wrap64 (burns - 1), changes := wrap64 (changes + 1) } from
        HD.out.fields { l := l, dead := false, fused := false, burns := wrap64 (burns - 1), changes := wrap64 (changes + 1) } rfl (fun q => by cases q) (fun cl ck cw k => k.set_ 5 (.int .i64 (wrap64 (changes + 1)))) HO2.out)
      clear hst hset1 hbn c3
      go_enter Try.func54, Try.ntmps54
      go_wp2
      go_ret
      exact ⟨rfl, HS2.out, HO2.out⟩

end Go.Proofs.Yteaimjfpmacgeaa
