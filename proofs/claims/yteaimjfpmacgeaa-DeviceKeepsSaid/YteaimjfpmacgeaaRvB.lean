/- The reference's device: the fuse, Read, Write. -/
import Derived.Test.YteaimjfpmacgeaaRvA
import Derived.Test.YteaimjfpmacgeaaApB
import Derived.Test.YteaimjfpmacgeaaDvF
namespace Go.Proofs.Yteaimjfpmacgeaa
open Go.RowKit
set_option linter.unusedVariables false

set_option maxHeartbeats 400000 in
theorem rfuse_any (w : World) (y gl gk gw : Nat) (d : DSt) (n : Int) (hn9 : n ≤ 9223372036854775807) (h : RDev w y gl gk gw d) :
    Calls Try.prog 49 #[.pointer (some ⟨y, 0, none⟩), .int .i64 n] w fun e w' => e = .returned (.int .i64 (fuseE n)) ∧ RDev w' y gl gk gw (d.fuse n) ∧ Only [y] w w' := by
  have HD := Lib.hid h
  obtain ⟨cl, ck, cw, h1, h2, h3, k⟩ := h.blk
  have c3 : w.cell? ⟨y, 3, none⟩ = some (.int .i64 d.rB) := k.cell 3
  have f3 := k.frozen 3
  clear k h h1 h2 h3
  by_cases hn : n < 0
  · have HF := Lib.hid (show d.fuse n = d ∧ fuseE n = 1 from ⟨if_pos hn, if_pos hn⟩)
    rw [HF.out.1, HF.out.2]
    go_enter Try.func49, Try.ntmps49
    go_wp2
    go_ret
    exact ⟨rfl, HD.out, Only.refl _ _⟩
  · have HF := Lib.hid (show d.fuse n = { d with fused := true, burns := n } ∧ fuseE n = 0 from ⟨if_neg hn, if_neg hn⟩)
    have HO := Lib.hid (show Only [y] w (w.setCell ⟨y, 3, none⟩ (.int .i64 n)) from Only.setCell _ _ (by simp) _)
    have HS := Lib.hid (show RDev (w.setCell ⟨y, 3, none⟩ (.int .i64 n)) y gl gk gw { d with fused := true, burns := n } from HD.out.fields { d with fused := true, burns := n } rfl (fun _ => ⟨by show 0 ≤ n; omega, hn9⟩) (fun cl ck cw k => k.set_ 3 (.int .i64 n)) HO.out)
    rw [HF.out.1, HF.out.2]
    clear hn9
    go_enter Try.func49, Try.ntmps49
    go_wp2
    go_ret
    exact ⟨rfl, HS.out, HO.out⟩

set_option maxRecDepth 100000 in
set_option maxHeartbeats 1000000 in
theorem rread_any (w : World) (y gl gk gw : Nat) (d : DSt) (i : Int) (h : RDev w y gl gk gw d) :
    Calls Try.prog 36 #[.pointer (some ⟨y, 0, none⟩), .int .i64 i] w fun e w' => ∃ x, e = .returned (.tuple #[x, .int .i64 (d.rdE i)]) ∧ OB w' w.heap.size x (d.rd i) ∧ Below w.heap.size w w' := by
  obtain ⟨cl, ck, cw, h1, h2, h3, k⟩ := h.blk
  have c0 : w.cell? ⟨y, 0, none⟩ = some (.slice (some ⟨gl, 0, none⟩) d.l.length cl) := k.cell 0
  have c4 : w.cell? ⟨y, 4, none⟩ = some (.bool d.dead) := k.cell 4
  by_cases hx : d.has i = true
  · have hxx : 0 ≤ i ∧ i < d.l.length := by unfold DSt.has at hx; exact of_decide_eq_true hx
    obtain ⟨j, rfl⟩ := Int.eq_ofNat_of_zero_le hxx.1
    have hj : j < d.l.length := by omega
    have hjI : (j : Int) < (d.l.length : Int) := by omega
    by_cases hd : d.dead = true
    · have HE := Lib.hid (show d.rdE j = 70 ∧ d.rd j = [] from ⟨by unfold DSt.rdE; rw [if_pos hx, if_pos hd], if_neg (by unfold DSt.rdE; rw [if_pos hx, if_pos hd]; decide)⟩)
      rw [hd] at c4
      rw [HE.out.1, HE.out.2]
      clear h k hx hd hxx h1 h2 h3
      go_enter Try.func36, Try.ntmps36
      go_wp2
      go_ret2
      exact ⟨_, rfl, World.ownsRow_nil _ _ _ _, Below.refl _ _⟩
    · rw [Bool.not_eq_true] at hd
      have hg : d.l[j]? = some d.l[j] := List.getElem?_eq_getElem hj
      have HE := Lib.hid (show d.rdE j = 0 ∧ d.rd j = d.l[j].now from by
        have e : d.rdE j = 0 := by unfold DSt.rdE; rw [if_pos hx, hd]; rfl
        exact ⟨e, by unfold DSt.rd; rw [if_pos e, Int.toNat_natCast, List.getD_eq_getElem?_getD, List.getElem?_map, hg]; rfl⟩)
      obtain ⟨cur, kl, hr⟩ := h.rl
      obtain ⟨u, hu, hub⟩ := hr j d.l[j].now (by rw [List.getElem?_map, hg]; rfl)
      have hlen := (h.ok _ (List.mem_of_getElem? hg)).1
      rw [HE.out.1, HE.out.2]
      generalize d.l[j].now = B at *
      obtain ⟨ua, un, uc, rfl⟩ := hub.sl.val
      have hbE : Below w.heap.size w (w.alloc (.cells #[] 5)) := (Below.refl _ _).alloc (Nat.le_refl _) _
      have hown0 : (w.alloc (.cells #[] 5)).ownsRow w.heap.size 5 1 (.slice (some ⟨w.heap.size, 0, none⟩) 0 0) 0 [] :=
        World.ownsRow_lit (base := w.heap.size) (e := 5) (size := 1) w #[] 0 (Nat.le_refl _) (by simp [maxLen]) (by simp)
      have hsE := hub.sl.below hbE (Nat.le_refl _)
      have d0 : (w.alloc (.cells #[] 5)).cell? ⟨y, 0, none⟩ = some (.slice (some ⟨gl, 0, none⟩) d.l.length cl) := (k.alloc _).cell 0
      have d5 : (w.alloc (.cells #[] 5)).cell? ⟨gl, j, none⟩ = some (.slice ua un uc) := ((kl.alloc _).cell j).trans hu
      rw [hd] at c4
      have HL := Lib.hid hlen
      clear h k hx hd hxx h1 h2 h3 hg hr hu hub kl hlen
      go_enter Try.func36, Try.ntmps36
      go_wp2_with (at_builtin; refine wpList_append_bytes rfl (.tmp 21) (.tmp 28) rfl w.heap.size _ 0 [] rfl hown0 (.slice ua un uc) B rfl hsE (by have := HL.out; omega) (by simp) ?_)
      intro x5 w5 hown5 hg5
      have hb5 := below_grown hbE hown0 (Nat.le_refl _) (by simp) hg5
      have HX := Lib.hid (show OB w5 w.heap.size x5 B from by unfold OB; simpa using hown5)
      clear hown5 hg5 hown0 hsE
      go_wp2
      go_ret2
      exact ⟨_, rfl, HX.out, hb5⟩
  · have HE := Lib.hid (show d.rdE i = 1 ∧ d.rd i = [] from ⟨by unfold DSt.rdE; rw [if_neg hx], if_neg (by unfold DSt.rdE; rw [if_neg hx]; decide)⟩)
    have hy : i < 0 ∨ (d.l.length : Int) ≤ i := by
      unfold DSt.has at hx
      rw [decide_eq_true_eq] at hx
      omega
    rw [HE.out.1, HE.out.2]
    clear h k hx h1 h2 h3
    rcases hy with hy | hy
    · go_enter Try.func36, Try.ntmps36
      go_wp2
      go_ret2
      exact ⟨_, rfl, World.ownsRow_nil _ _ _ _, Below.refl _ _⟩
    · have hz : ¬ i < 0 := by omega
      go_enter Try.func36, Try.ntmps36
      go_wp2
      go_ret2
      exact ⟨_, rfl, World.ownsRow_nil _ _ _ _, Below.refl _ _⟩

end Go.Proofs.Yteaimjfpmacgeaa
