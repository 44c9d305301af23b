/- The walk of Same: whether two batches are the same. -/
import Derived.Test.YtpdajglcpkfonaaChkRef
import Derived.Test.YtpdajglcpkfonaaClone
import Derived.BigQuiet
import Derived.Deep.QuietTactic
namespace Go.Proofs.Ytpdajglcpkfonaa
open Go.RowKit
set_option linter.unusedVariables false

theorem Sl.convN {w : World} {v : Value} {xs : List Int} (h : Sl w v (xs.map (Value.int .u8))) : ∀ n, (convert 23 9 v).run Try.prog (w.drewN n) = .ok (.string (strOfNums xs)) (w.drewN n) :=
  fun n => (h.below (below_drewN (Below.refl w.heap.size w) n) (Nat.le_refl _)).conv

theorem chgs_differ {ps qs : List Chg} {k : Nat} (h : ps.getD k ([], []) ≠ qs.getD k ([], [])) : decide (ps = qs) = false := by
  simp only [decide_eq_false_iff_not]
  rintro rfl
  exact h rfl
theorem chgs_same {ps qs : List Chg} (hl : ps.length = qs.length) (h : ∀ j, j < ps.length → ps.getD j ([], []) = qs.getD j ([], [])) : decide (ps = qs) = true := by
  simp only [decide_eq_true_eq]
  refine List.ext_getElem hl fun j h1 h2 => ?_
  have := h j h1
  rwa [List.getD_eq_getElem?_getD, List.getD_eq_getElem?_getD, List.getElem?_eq_getElem h1, List.getElem?_eq_getElem h2] at this
theorem chg_at {l : List Chg} (h : ∀ p ∈ l, IsB p.1 ∧ IsB p.2) {k : Nat} (hk : k < l.length) : IsB (l.getD k ([], [])).1 ∧ IsB (l.getD k ([], [])).2 := by
  rw [List.getD_eq_getElem?_getD, List.getElem?_eq_getElem hk]; exact h _ (List.getElem_mem hk)
theorem str_eq {x z : List Int} (h : x = z) : ((strOfNums x).toList == (strOfNums z).toList) = true := by rw [h]; exact beq_self_eq_true _
theorem str_ne {x z : List Int} (hx : IsB x) (hz : IsB z) (h : ¬ x = z) : ((strOfNums x).toList == (strOfNums z).toList) = false := by rw [beq_eq_false_iff_ne]; exact fun e => h (strOfNums_inj hx hz (toList_inj e))

set_option maxHeartbeats 2000000 in
theorem sameB_any (v1 v2 : Value) (ps qs : List Chg) (w : World) (hp : ∀ p ∈ ps, IsB p.1 ∧ IsB p.2) (hq : ∀ p ∈ qs, IsB p.1 ∧ IsB p.2) (h1 : Bds w v1 ps) (h2 : Bds w v2 qs) :
    Calls Try.prog 28 #[v1, v2] w fun e w' => e = .returned (.bool (decide (ps = qs))) ∧ Below w.heap.size w w' := by
  obtain ⟨a1, c1, rfl, hc1, hm1⟩ := h1.shape
  obtain ⟨a2, c2, rfl, hc2, hm2⟩ := h2.shape
  by_cases hl : ps.length = qs.length
  · have HL := Lib.hid hl
    have h2' : Bds w (.slice a2 ps.length c2) qs := by rw [hl]; exact h2
    rw [← hl]
    clear hl h2 hc2 hm2
    go_enter Try.func28, Try.ntmps28
    go_wp2
    go_loopw [13] (fun i wr => ∃ k : Nat, k ≤ ps.length ∧ i = .int .i64 k ∧ Hid (∀ j, j < k → ps.getD j ([], []) = qs.getD j ([], [])) ∧ Below w.heap.size w wr) (fun i _ => ps.length - (intOf i).toNat)
    case atStart => exact ⟨0, by omega, rfl, fun j hj => absurd hj (by omega), Below.refl _ _⟩
    case round =>
      obtain ⟨k, hk, rfl, hall, hbr⟩ := hrel
      by_cases hlt : k < ps.length
      · obtain ⟨b1, o1, rfl, hb1, u1, u2, k1, k2, s1, s2⟩ := (h1.below hbr (Nat.le_refl _)).at hlt
        obtain ⟨b2, o2, rfl, hb2, u3, u4, k3, k4, s3, s4⟩ := (h2'.below hbr (Nat.le_refl _)).at (k := k) (by rw [← HL.out]; exact hlt)
        have hkI : (k : Int) < (ps.length : Int) := by omega
        have hB1 := chg_at hp hlt
        have hB2 := chg_at hq (k := k) (by rw [← HL.out]; exact hlt)
        have HD := Lib.hid (@chgs_differ ps qs k)
        generalize hP : ps.getD k ([], []) = P at *
        generalize hQ : qs.getD k ([], []) = R at *
        obtain ⟨x, y⟩ := P
        obtain ⟨z, t⟩ := R
        have HP := Lib.hid hP
        have HQ := Lib.hid hQ
        have cv1 := s1.convN
        have cv2 := s2.convN
        have cv3 := s3.convN
        have cv4 := s4.convN
        have HX := Lib.hid (@str_ne x z hB1.1 hB2.1)
        have HY := Lib.hid (@str_ne y t hB1.2 hB2.2)
        obtain ⟨xa, xn, xc, rfl⟩ := s1.val
        obtain ⟨ya, yn, yc, rfl⟩ := s2.val
        obtain ⟨za, zn, zc, rfl⟩ := s3.val
        obtain ⟨ta, tn, tc, rfl⟩ := s4.val
        clear hP hQ hB1 hB2 s1 s2 s3 s4
        by_cases hxz : x = z
        · have hsx := str_eq hxz
          by_cases hyt : y = t
          · have hsy := str_eq hyt
            have HE := Lib.hid (show (x, y) = (z, t) by rw [hxz, hyt])
            clear hxz hyt
            go_wp2
            go_quiet (fail)
            have hbr := below_drewN hbr nq
            generalize wr.drewN nq = w2 at *
            go_wp2
            exact ⟨⟨k + 1, by omega, by go_num, fun j hj => by
              rcases Nat.lt_or_ge j k with h | h
              · exact hall.out j h
              · obtain rfl : j = k := by omega
                rw [HP.out, HQ.out]; exact HE.out, hbr⟩, by simp [intOf]; omega⟩
          · have hsy := HY.out hyt
            have HE := Lib.hid (HD.out (show (x, y) ≠ (z, t) from fun e => hyt (Prod.mk.inj e).2))
            clear hxz hyt
            go_wp2
            go_quiet (fail)
            have hbr := below_drewN hbr nq
            generalize wr.drewN nq = w2 at *
            go_wp2
            go_ret
            exact ⟨ret_bool HE.out.symm, hbr⟩
        · have hsx := HX.out hxz
          have HE := Lib.hid (HD.out (show (x, y) ≠ (z, t) from fun e => hxz (Prod.mk.inj e).1))
          clear hxz
          go_wp2
          go_quiet (fail)
          have hbr := below_drewN hbr nq
          generalize wr.drewN nq = w2 at *
          go_wp2
          go_ret
          exact ⟨ret_bool HE.out.symm, hbr⟩
      · have hkI : ¬ (k : Int) < (ps.length : Int) := by omega
        have HD := Lib.hid (chgs_same HL.out fun j hj => hall.out j (by omega))
        clear h1 h2'
        go_wp2
        go_ret
        exact ⟨ret_bool HD.out.symm, hbr⟩
  · have hI : ¬ (ps.length : Int) = (qs.length : Int) := by omega
    have HD := Lib.hid (show decide (ps = qs) = false by simp only [decide_eq_false_iff_not]; rintro rfl; exact hl rfl)
    clear hl
    go_enter Try.func28, Try.ntmps28
    go_wp2
    go_ret
    exact ⟨ret_bool HD.out.symm, Below.refl _ _⟩

end Go.Proofs.Ytpdajglcpkfonaa
