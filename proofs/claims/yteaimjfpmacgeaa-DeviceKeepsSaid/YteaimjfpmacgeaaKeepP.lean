/- The plain laws of DeviceKeeps: what a crash leaves. -/
import Derived.Test.YteaimjfpmacgeaaDvG
import Derived.Test.YteaimjfpmacgeaaDvD
namespace Go.Proofs.Yteaimjfpmacgeaa
open Go.RowKit
set_option linter.unusedVariables false

theorem crF_waits (ws : List Bool) (keep : List Int) (i : Nat) (s : Sec) : (crF ws keep i s).waits = false := by
  unfold crF
  split
  · unfold crS; split <;> rfl
  · rename_i h; simpa using h
theorem crash_at (d : DSt) (keep : List Int) (i : Nat) : (d.crash keep).l[i]? = d.l[i]?.map fun s => crF (d.l.map Sec.waits) keep i s := by
  show (crashL d.l keep)[i]? = _
  unfold crashL
  rw [List.getElem?_mapIdx]
theorem crash_len (d : DSt) (keep : List Int) : (d.crash keep).l.length = d.l.length := by
  show (crashL d.l keep).length = _
  unfold crashL; rw [List.length_mapIdx]
theorem crash_waits (d : DSt) (keep : List Int) : ∀ s ∈ (d.crash keep).l, s.waits = false := by
  intro s hs
  obtain ⟨i, hi⟩ := List.mem_iff_getElem?.1 hs
  rw [crash_at] at hi
  cases h : d.l[i]? with
  | none => rw [h] at hi; cases hi
  | some t =>
    rw [h] at hi
    obtain rfl : crF (d.l.map Sec.waits) keep i t = s := Option.some.inj hi
    exact crF_waits _ _ _ _
theorem wlN_none (l : List Bool) (h : ∀ i, l.getD i false = false) : ∀ n, wlN l n = []
  | 0 => rfl
  | n + 1 => by rw [wlN, wlN_none l h n, if_neg (by rw [h n]; simp)]; rfl
theorem crash_wl (d : DSt) (keep : List Int) : wlL (d.crash keep).ws = [] := by
  refine wlN_none _ (fun i => ?_) _
  unfold DSt.ws
  rw [List.getD_eq_getElem?_getD, List.getElem?_map]
  cases h : (d.crash keep).l[i]? with
  | none => rfl
  | some s => exact crash_waits d keep s (List.mem_of_getElem? h)
theorem crash_or (d : DSt) (keep : List Int) (i : Nat) : ((d.crash keep).l.map Sec.now).getD i [] = (d.l.map Sec.now).getD i [] ∨ ((d.crash keep).l.map Sec.now).getD i [] = (d.l.map Sec.kept).getD i [] := by
  rw [List.getD_eq_getElem?_getD, List.getD_eq_getElem?_getD, List.getD_eq_getElem?_getD, List.getElem?_map, List.getElem?_map, List.getElem?_map, crash_at]
  cases h : d.l[i]? with
  | none => exact Or.inl rfl
  | some s =>
    show (crF (d.l.map Sec.waits) keep i s).now = s.now ∨ (crF (d.l.map Sec.waits) keep i s).now = s.kept
    unfold crF
    split
    · unfold crS
      split
      · exact Or.inr rfl
      · exact Or.inl rfl
    · exact Or.inl rfl
theorem crash_ones (d : DSt) (h : d.l.length = 8) : (d.crash (List.replicate 9 1)).l.map Sec.now = d.l.map Sec.now := by
  apply List.ext_getElem?
  intro i
  rw [List.getElem?_map, List.getElem?_map, crash_at]
  cases hs : d.l[i]? with
  | none => rfl
  | some s =>
    have hi : i < 8 := by rw [← h]; exact (List.getElem?_eq_some_iff.1 hs).1
    have hb := wlN_bound (d.l.map Sec.waits) i
    show some (crF (d.l.map Sec.waits) (List.replicate 9 1) i s).now = some s.now
    congr 1
    unfold crF
    split
    · unfold crS
      rw [if_neg (by
        intro q
        rcases q with q | q
        · rw [List.length_replicate] at q; omega
        · rw [List.getD_eq_getElem?_getD, List.getElem?_replicate, if_pos (by omega)] at q; cases q)]
    · rfl
/-- What stands while sectors are written. -/
structure KInv (S : List (List Int)) (d : DSt) : Prop where
  dead : d.dead = false
  fused : d.fused = false
  len : d.l.length = 8
  kept : d.l.map Sec.kept = S
theorem KInv.init {d0 : DSt} (h : d0.l.length = 8) (hok : ∀ s ∈ (d0.crash []).l, s.ok) : KInv ((d0.crash []).l.map Sec.now) (d0.crash []) := by
  refine ⟨rfl, rfl, by rw [crash_len]; exact h, ?_⟩
  apply List.map_congr_left
  intro s hs
  exact ((hok s hs).2.2.2.2 (crash_waits d0 [] s hs)).symm
theorem KInv.wrote {S : List (List Int)} {d : DSt} (h : KInv S d) (i : Int) (bs : List Int) : KInv S (d.wrote i bs) := by
  unfold DSt.wrote
  split
  · have hs : d.stops = false := by unfold DSt.stops; rw [h.dead, h.fused]; rfl
    rw [if_neg (by rw [hs]; simp)]
    have hc : d.chg.dead = d.dead ∧ d.chg.fused = d.fused := by unfold DSt.chg; rw [if_neg (by rw [hs]; simp)]; exact ⟨rfl, rfl⟩
    refine ⟨hc.1.trans h.dead, hc.2.trans h.fused, by show (d.l.modify _ _).length = 8; rw [List.length_modify]; exact h.len, ?_⟩
    show (d.l.modify i.toNat fun s => s.wrote bs).map Sec.kept = S
    rw [← h.kept]
    apply List.ext_getElem?
    intro k
    rw [List.getElem?_map, List.getElem?_map, List.getElem?_modify]
    cases d.l[k]? with
    | none => rfl
    | some s =>
      show some (if i.toNat = k then s.wrote bs else s).kept = some s.kept
      split <;> rfl
  · exact h

end Go.Proofs.Yteaimjfpmacgeaa
