/- Same: are two devices the same? (printed by gen_same.py) -/
import Derived.Test.YteaimjfpmacgeaaDo
import Derived.Test.YteaimjfpmacgeaaDvG
import Derived.Test.YteaimjfpmacgeaaSame
import Derived.Test.YteaimjfpmacgeaaEqInts
import Derived.Deep.RegionHeld3
namespace Go.Proofs.Yteaimjfpmacgeaa
open Go.RowKit
set_option linter.unusedVariables false

theorem TRow.sls {w : World} {gl cl : Nat} {xs : List (List Int)} (h : TRow w gl xs) (h1 : xs.length ≤ cl) (h2 : cl ≤ 9223372036854775807) : Sls w (.slice (some ⟨gl, 0, none⟩) xs.length cl) xs := by
  obtain ⟨cur, k, hx⟩ := h
  have hval : ∀ i, i < xs.length → ∃ u, cur[i]? = some u := fun i hi => by
    obtain ⟨u, hu, _⟩ := hx i xs[i] (List.getElem?_eq_getElem hi)
    exact ⟨u, hu⟩
  have hsz : xs.length ≤ cur.size := by
    rcases Nat.lt_or_ge cur.size xs.length with q | q
    · obtain ⟨u, hu⟩ := hval cur.size q
      rw [Array.getElem?_eq_none (Nat.le_refl _)] at hu; cases hu
    · exact q
  have hl : (cur.toList.take xs.length).length = xs.length := List.length_take_of_le (by rw [Array.length_toList]; exact hsz)
  refine ⟨cur.toList.take xs.length, ⟨some ⟨gl, 0, none⟩, cl, by rw [hl], by rw [hl]; exact h1, by unfold maxLen; exact h2, fun _ => ⟨gl, 0, rfl, k.lt, fun j u hj => ?_⟩⟩, hl, fun i u bs hu hp => ?_⟩
  · rw [List.getElem?_take] at hj
    split at hj
    · rw [k.cell, Nat.zero_add, ← Array.getElem?_toList]; exact hj
    · cases hj
  · rw [List.getElem?_take] at hu
    split at hu
    · obtain ⟨u', hu', hb⟩ := hx i bs hp
      rw [Array.getElem?_toList, hu'] at hu
      cases hu
      exact hb.sl
    · cases hu

set_option maxRecDepth 100000 in
set_option maxHeartbeats 4000000 in
theorem same_any (w : World) (g b y gl gk gw : Nat) (d : DSt) (hP : Pair w g b y gl gk gw d) :
    Calls Try.prog 27 #[.pointer (some ⟨g, 0, none⟩), .pointer (some ⟨y, 0, none⟩)] w fun e w' => e = .returned (.bool true) ∧ Below w.heap.size w w' := by
  have HP := Lib.hid hP
  have HWL := Lib.hid (show wlL d.ws = wlN d.ws d.l.length from by unfold wlL DSt.ws; rw [List.length_map])
  have HOK := Lib.hid hP.ref.ok
  obtain ⟨cl, ck, cw, h1, h2, h3, kb⟩ := hP.ref.blk
  have c2 : w.cell? ⟨y, 2, none⟩ = some (.slice (some ⟨gw, 0, none⟩) d.l.length cw) := kb.cell 2
  have hp := hP.ref.pos
  have HH1 := Lib.hid h1
  have HKB := Lib.hid kb
  obtain ⟨i0, hi, hz0, hz1, hz2⟩ := info_parts infoInt
  clear hP kb h1 h2
  go_enter Try.func27, Try.ntmps27
  go_wp2
  go_loopw [5, 13] (fun l i wr => ∃ (k : Nat) (v : Value), v = l ∧ k ≤ d.l.length ∧ i = .int .i64 k ∧ wr.ownsRow w.heap.size 3 1 v (wlN d.ws k).length ((wlN d.ws k).map fun i : Nat => Value.int .i64 i) ∧ Below w.heap.size w wr) (fun _ i _ => d.l.length - (intOf i).toNat)
  case atStart => exact ⟨0, _, rfl, by omega, rfl, World.ownsRow_nil _ _ _ _, Below.refl _ _⟩
  case round =>
    clear c2
    obtain ⟨k, v, rfl, hk, rfl, hO, hb⟩ := hrel
    obtain ⟨va, vn, vc, rfl⟩ := (Sl.of_owns hO).val
    by_cases hlt : k < d.l.length
    · have hkI : (k : Int) < (d.l.length : Int) := by omega
      have hg : d.l[k]? = some d.l[k] := List.getElem?_eq_getElem hlt
      obtain ⟨_, _, _, _, _, _, _, _, _, _, hA⟩ := (HP.out.ref.below hb).at_ hg
      have c8 := hA.w0
      have hw8 : d.ws.getD k false = d.l[k].waits := ws_at hg
      generalize d.l[k].waits = x at *
      have HB := Lib.hid (wlN_bound d.ws k)
      cases x with
      | true =>
        have HT := Lib.hid (show wlN d.ws (k + 1) = wlN d.ws k ++ [k] from by rw [wlN, if_pos hw8])
        have HT2 := Lib.hid (show (wlN d.ws (k + 1)).map (fun i : Nat => Value.int .i64 i) = (wlN d.ws k).map (fun i : Nat => Value.int .i64 i) ++ [.int .i64 k] ∧ (wlN d.ws (k + 1)).length = (wlN d.ws k).length + 1 from by rw [HT.out]; simp)
        generalize (wlN d.ws k).map (fun i : Nat => Value.int .i64 i) = XS at *
        generalize (wlN d.ws k).length = n at *
        have hbA : Below wr.heap.size wr (wr.alloc (.cells #[.int .i64 k] 3)) := (Below.refl _ _).alloc (Nat.le_refl _) _
        have hO3 := ownsRow_below hO hbA (Nat.le_refl _)
        have hc3 := (Blk.new wr 3 #[.int .i64 k]).cell 0
        have hbA2 := hb.trans (hbA.mono hb.size)
        clear hA hg hw8 hO hbA hb HT
        go_wp2_with (at_builtin; refine wpList_append_own _ rfl _ _ 22 rfl w.heap.size 3 i0 (.int .i64 0) 1 8 Try.underlying22 hi hz0 hz1 hz2 rfl (by decide) _ n XS rfl hO3 ⟨wr.heap.size, 0, none⟩ 1 1 [.int .i64 k] rfl rfl (fun j u hj => by match j, hj with | 0, hj => (simp at hj; subst hj; exact hc3) | j + 1, hj => simp at hj) (by simp [Value.oneCell']) (by have := HB.out; unfold maxLen; omega) (by have := HB.out; omega) hbA2.size ?_)
        intro v5 w5 hO5 hg5 _
        have hb6 := below_grown hbA2 hO3 (Nat.le_refl _) hbA2.size hg5
        rw [← HT2.out.1, ← HT2.out.2] at hO5
        clear hg5 hO3 hc3 hbA2
        go_wp2
        go_roundw
        case rel => exact ⟨k + 1, v5, rfl, by omega, by go_num, hO5, hb6⟩
        case measure => simp [intOf]; omega
      | false =>
        have HT := Lib.hid (show wlN d.ws (k + 1) = wlN d.ws k from by rw [wlN, if_neg (by rw [hw8]; simp), List.append_nil])
        clear hA hg hw8
        go_wp2
        go_roundw
        case rel => exact ⟨k + 1, _, rfl, by omega, by go_num, by rw [HT.out]; exact hO, hb⟩
        case measure => simp [intOf]; omega
    · obtain rfl : k = d.l.length := by omega
      have hkI : ¬ (d.l.length : Int) < (d.l.length : Int) := by omega
      have hO2 := hO
      rw [← HWL.out] at hO2
      have HWS := Lib.hid (show Sl wr (.slice va vn vc) (((wlL d.ws).map fun i : Nat => (i : Int)).map (Value.int .i64)) from by
        have h := Sl.of_owns hO2
        rw [List.map_map]; exact h)
      have HPR := Lib.hid (show Pair wr g b y gl gk gw d from ⟨HP.out.dev.below hb, HP.out.ref.below hb⟩)
      have HKR := Lib.hid (HKB.out.belowS hb)
      have HBR := Lib.hid hb
      clear hO hO2 hb
      go_upto_region 8 with (fail)
      have HIM := Lib.hid (fun w' (q : Below wr.heap.size wr w') => dimage_any w' g b d (HPR.out.dev.below q))
      have HWA := Lib.hid (fun w' (q : Below wr.heap.size wr w') => dwaits_any w' g b d (HPR.out.dev.below q))
      have HDE := Lib.hid (fun w' (q : Below wr.heap.size wr w') => ddead_any w' g b d (HPR.out.dev.below q))
      have HCH := Lib.hid (fun w' (q : Below wr.heap.size wr w') => dchanges_any w' g b d (HPR.out.dev.below q))
      have HST := Lib.hid (fun w' x (q : Below wr.heap.size wr w') (h : Sls w' x (d.l.map Sec.now)) => (show Calls Try.prog 31 #[x, .slice (some ⟨gl, 0, none⟩) d.l.length cl] w' fun e w'' => e = .returned (.bool true) ∧ w' = w'' from by
        have hB : ∀ p ∈ d.l.map Sec.now, IsB p := fun p hp => by
          obtain ⟨s, hs, rfl⟩ := List.mem_map.1 hp
          exact (HOK.out s hs).2.2.1
        have hS := (HPR.out.ref.below q).rl.sls (cl := cl) (by rw [List.length_map]; exact HH1.out.1) HH1.out.2
        rw [List.length_map] at hS
        have h2 := sameTexts_any x _ _ _ w' h hS hB hB
        rw [decide_eq_true rfl] at h2
        exact h2))
      have HEQ := Lib.hid (fun w' x (q : Below wr.heap.size wr w') (h : Sl w' x (((wlL d.ws).map fun i : Nat => (i : Int)).map (Value.int .i64))) => (show Calls Try.prog 32 #[x, .slice va vn vc] w' fun e w'' => e = .returned (.bool true) ∧ Below w'.heap.size w' w'' from by
        have h2 := eqInts_any x (.slice va vn vc) _ _ w' h (HWS.out.below q (Nat.le_refl _))
        rw [decide_eq_true rfl] at h2
        exact h2))
      have HSS := Lib.hid (fun w' (q : Below wr.heap.size wr w') => (show w'.cell? ⟨y, 0, none⟩ = some (.slice (some ⟨gl, 0, none⟩) d.l.length cl) ∧ w'.cell? ⟨y, 4, none⟩ = some (.bool d.dead) ∧ w'.cell? ⟨y, 5, none⟩ = some (.int .i64 d.changes) from ⟨(HKR.out.belowS q).cell 0, (HKR.out.belowS q).cell 4, (HKR.out.belowS q).cell 5⟩))
      have hG := Lib.hid (HSS.out wr (Below.refl _ _))
      have HB0 := Lib.hid (show Below wr.heap.size wr wr.drew from (Below.refl _ _).drew)
      clear hkI
      go_region_held3 (fun w' => w'.cell? ⟨y, 0, none⟩ = some (.slice (some ⟨gl, 0, none⟩) d.l.length cl) ∧ w'.cell? ⟨y, 4, none⟩ = some (.bool d.dead) ∧ w'.cell? ⟨y, 5, none⟩ = some (.int .i64 d.changes)) (exact hG.out) (first
        | (go_at_call 21; refine (HIM.out _ HB0.out).mono ?_; rintro e w2 ⟨x2, rfl, hx2, hb2⟩; obtain ⟨xa, xc, rfl⟩ : ∃ a c, x2 = Value.slice a d.l.length c := (by obtain ⟨a, c, e⟩ := hx2.val; rw [List.length_map] at e; exact ⟨a, c, e⟩); have hb2 : Below wr.heap.size wr w2 := ⟨hb2.os, hb2.tape, hb2.output, hb2.size, hb2.block⟩; have hG := Lib.hid (HSS.out _ hb2))
        | (go_at_call 31; refine (HST.out _ _ hb2 hx2.sls).mono ?_; rintro e w3 ⟨rfl, rfl⟩)
        | (go_at_call 19; refine (HDE.out _ hb2).mono ?_; rintro e w3 ⟨rfl, rfl⟩)
        | (go_at_call 22; refine (HCH.out _ hb2).mono ?_; rintro e w3 ⟨rfl, rfl⟩)
        | (go_at_call 20; refine (HWA.out _ hb2).mono ?_; rintro e w4 ⟨x4, rfl, hx4, hb4⟩; obtain ⟨ya, yn, yc, rfl⟩ := (Sl.of_owns hx4).val; have hb4 := below_trans2 hb2 hb4; have hG := Lib.hid (HSS.out _ hb4))
        | (go_at_call 32; refine (HEQ.out _ _ hb4 (by have h := Sl.of_owns hx4; rw [List.map_map]; exact h)).mono ?_; rintro e w5 ⟨rfl, hb5⟩; have hb5 := below_trans2 hb4 hb5; have hG := Lib.hid (HSS.out _ hb5)))
      all_goals
        have hbw := HBR.out.trans (hb5.mono HBR.out.size)
        clear hx2 hb2 hx4 hb4 hb5 hG
        go_wp2
        go_ret
        exact ⟨rfl, hbw⟩

end Go.Proofs.Yteaimjfpmacgeaa
