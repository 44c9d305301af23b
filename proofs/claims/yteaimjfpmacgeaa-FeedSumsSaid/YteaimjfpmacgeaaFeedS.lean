/- The walk of FeedSums: it returns true. Conditions: none. -/
import Derived.Test.YteaimjfpmacgeaaEqCuts
import Derived.Test.YteaimjfpmacgeaaBytes
namespace Go.Proofs.Yteaimjfpmacgeaa
open Go.RowKit
set_option linter.unusedVariables false

set_option maxRecDepth 100000 in
set_option maxHeartbeats 1000000 in
theorem awake19_any (w : World) : Calls Try.prog 10 #[] w fun e w' => e = .returned (.bool true) ∧ Below w.heap.size w w' := by
  have hs0 : Sl (w.alloc (.cells #[.int .i64 2, .int .i64 3] 3)) (.slice (some ⟨w.heap.size, 0, none⟩) 2 2) ([2, 3].map (Value.int .i64)) := Sl.lit w #[.int .i64 2, .int .i64 3] 3 (by decide)
  have HC := Lib.hid (Cuts_any (some ⟨w.heap.size, 0, none⟩) 2 [2, 3] 1 3 (by simp) (by omega) (by omega) (by simp) _ hs0)
  have hb0 : Below w.heap.size w (w.alloc (.cells #[.int .i64 2, .int .i64 3] 3)) := (Below.refl _ w).alloc (Nat.le_refl _) _
  have HB0 := Lib.hid hb0
  clear hs0 hb0
  go_enter Try.func10, Try.ntmps10
  go_wp2_with fail
  refine HC.out.mono ?_
  rintro e w1 ⟨v, rfl, hr, hb1⟩
  have e0 : cutsI [2, 3] 1 3 = [⟨0, 1, 2⟩, ⟨1, 0, 2⟩] := by simp [cutsI, cutsFrom, cutTo]
  rw [e0] at hr
  have hc1 : CRow w1 v [(1, 2), (0, 2)] := CRow.of_owns (l := [(1, 2), (0, 2)]) (by simpa [flatP, flatC] using hr)
  have hb1' := HB0.out.trans (hb1.mono (by simp))
  have hlit : CRow (w1.alloc (.cells #[.int .i64 1, .int .i64 2, .int .i64 0, .int .i64 2] 26)) (.slice (some ⟨w1.heap.size, 0, none⟩) 2 2) [(1, 2), (0, 2)] :=
    CRow.of_owns (base := 0) (l := [(1, 2), (0, 2)]) (World.ownsRow_lit w1 #[.int .i64 1, .int .i64 2, .int .i64 0, .int .i64 2] 2 (Nat.zero_le _) (by decide) rfl)
  have hal : Below w1.heap.size w1 (w1.alloc (.cells #[.int .i64 1, .int .i64 2, .int .i64 0, .int .i64 2] 26)) := (Below.refl _ w1).alloc (Nat.le_refl _) _
  obtain ⟨va, vc, rfl, _⟩ := id hc1
  have HE := Lib.hid (eqCuts_any _ _ _ _ _ (hc1.below hal (Nat.le_refl _)) hlit)
  have HB1 := Lib.hid (hb1'.trans (hal.mono hb1'.size))
  have hbs := hb1'.size
  clear hr hc1 hb1 hlit hal hb1' HB0 HC
  go_wp2_with fail
  refine HE.out.mono ?_
  rintro e w2 ⟨rfl, hb2⟩
  have HB2 := Lib.hid (HB1.out.trans (hb2.mono HB1.out.size))
  clear hb2
  go_wp2
  go_ret
  exact ⟨ret_bool (by decide), HB2.out⟩

set_option maxRecDepth 100000 in
set_option maxHeartbeats 1000000 in
theorem feedSums_walk (v : Value) (xs : List Int) (index limit : Int) (w : World) (hx64 : ∀ x ∈ xs, -9223372036854775808 ≤ x ∧ x ≤ 9223372036854775807) (hi1 : -9223372036854775808 ≤ index) (hi2 : index ≤ 9223372036854775807) (hl1 : -9223372036854775808 ≤ limit) (hl2 : limit ≤ 9223372036854775807)
    (hs : Sl w v (xs.map (Value.int .i64))) :
    Calls Try.prog 3 #[v, .int .i64 index, .int .i64 limit] w fun e w' => e = .returned (.bool true) ∧ Below w.heap.size w w' := by
  obtain ⟨a, cp, rfl, hc1, hc2⟩ := hs.shape
  rw [List.length_map] at hs hc1 ⊢
  by_cases h60 : xs.length ≤ 60
  · have h60I : (xs.length : Int) ≤ 60 := by omega
    obtain ⟨ys, hys⟩ : ∃ ys, ys = xs.take xs.length := ⟨_, rfl⟩
    have hyl : ys.length = xs.length := by rw [hys, List.length_take]; omega
    have hs2 : Sl w (.slice a xs.length cp) (ys.map (Value.int .i64)) := by rw [hys, List.map_take]; exact hs.take xs.length (by simp; try omega)
    have hy64 : ∀ x ∈ ys, -9223372036854775808 ≤ x ∧ x ≤ 9223372036854775807 := fun x hx => hx64 x (List.mem_of_mem_take (by rw [← hys]; exact hx))
    have HC := Lib.hid (Cuts_any a cp ys index limit hy64 ⟨hi1, hi2⟩ ⟨hl1, hl2⟩ (by omega) w (by rw [hyl]; exact hs2))
    rw [hyl] at HC
    have HS := Lib.hid hs2
    have HL := Lib.hid hyl
    have HLAW := Lib.hid (cutsI_law ys index limit)
    have hlen := cutsI_length ys index limit
    rw [hyl] at hlen
    generalize cutsI ys index limit = L at *
    clear hs hs2 hx64 hys hyl
    have hlI : (L.length : Int) ≤ (xs.length : Int) := by omega
    go_enter Try.func3, Try.ntmps3
    go_wp2_with fail
    refine HC.out.mono ?_
    rintro e w1 ⟨v, rfl, hr, hb1⟩
    have hcr : CRow w1 v (rngs L) := CRow.of_owns (l := rngs L) (by rw [flatP_rngs]; simpa [rngs] using hr)
    obtain ⟨va, vc, rfl, hvc1, hvc2, _⟩ := id hcr
    have hrl : (rngs L).length = L.length := by simp [rngs]
    rw [hrl] at *
    have HCR := Lib.hid hcr
    have HB1 := Lib.hid hb1
    clear hcr hb1 hr HC
    go_wp2
    go_loopw [7, 23] (fun n i wr => ∃ (k : Nat) (S : Int), k ≤ L.length ∧ i = .int .i64 k ∧ n = .int .i64 S ∧ Hid (S = sumC (L.take k)) ∧ Below w.heap.size w wr ∧ Below w1.heap.size w1 wr) (fun _ i _ => L.length - (intOf i).toNat)
    case atStart => exact ⟨0, 0, by omega, rfl, rfl, by simp [Hid, sumC], HB1.out, Below.refl _ _⟩
    case round =>
      obtain ⟨k, S, hk, rfl, rfl, HSUM, hbr, hbw⟩ := hrel
      by_cases hlt : k < L.length
      · obtain ⟨c, hc⟩ : ∃ c, L[k]? = some c := ⟨L[k], List.getElem?_eq_getElem hlt⟩
        obtain ⟨b1, o1, rfl, hblt, cx1, cx2⟩ := HCR.out.at (k := k) (p := (c.lo, c.hi)) (by simp [rngs, hc])
        have dx1 := (hbw.cell (p := ⟨b1, o1 + k * 2, none⟩) hblt).trans cx1
        have dx2 := (hbw.cell (p := ⟨b1, o1 + k * 2 + 1, none⟩) hblt).trans cx2
        dsimp only at dx1 dx2
        obtain ⟨q1, q2, _⟩ := HLAW.out.1 c (List.mem_of_getElem? hc)
        have hsplit : L = L.take k ++ c :: L.drop (k + 1) := by
          rw [List.getElem?_eq_getElem hlt] at hc
          cases hc
          rw [← List.drop_eq_getElem_cons hlt, List.take_append_drop]
        have q3 := HLAW.out.2.1 _ _ _ hsplit
        have q4 : 0 ≤ sumC (L.take k) := by have := sumC_nonneg (L.take k) (fun d hd => (HLAW.out.1 d (List.mem_of_mem_take hd)).2.1); omega
        rw [← HSUM.out] at q3 q4
        have HSN := Lib.hid (show S + (c.hi - c.lo) = sumC (L.take (k + 1)) by
          rw [HSUM.out]
          rw [List.getElem?_eq_getElem hlt] at hc
          cases hc
          rw [List.take_add_one, List.getElem?_eq_getElem hlt]
          exact (sumC_snoc _ _).symm)
        generalize c.lo = x1 at *
        generalize c.hi = x2 at *
        have HBR := Lib.hid hbr
        have HBW := Lib.hid hbw
        have hsz := hbr.size
        have hsz2 := hbw.size
        have HLT := Lib.hid hlt
        clear hsplit cx1 cx2 hc hbr hbw
        go_wp2
        exact ⟨⟨k + 1, _, HLT.out, by simp, rfl, HSN, HBR.out.alloc hsz _, HBW.out.alloc hsz2 _⟩, by simp [intOf]; have := HLT.out; omega⟩
      · obtain rfl : k = L.length := by omega
        have hF := HLAW.out.2.2
        have HS2 := HSUM.out
        rw [List.take_length] at HS2
        rw [← HS2, HL.out] at hF
        have HBR := Lib.hid hbr
        have HA := Lib.hid (awake19_any wr)
        have hbsz := hbr.size
        clear HLAW HCR HSUM HS2 hbr hbw
        by_cases hA : L.length = xs.length
        · have hAI : ((L.length : Int) == xs.length) = true := by simp [hA]
          clear hF
          go_wp2_with (go_at_call 10; refine HA.out.mono ?_; rintro e w2 ⟨rfl, hb2⟩; have HB2 := Lib.hid hb2; clear hb2)
          all_goals go_ret
          all_goals exact ⟨rfl, below_trans2 HBR.out HB2.out⟩
        · have hAI : ((L.length : Int) == xs.length) = false := by simp; omega
          by_cases hB : L.length = 0
          · have hBI : ((L.length : Int) == 0) = true := by simp [hB]
            have hB0 : ¬ (0 : Int) < (L.length : Int) := by omega
            have hxo : 0 < ys.length := by rw [HL.out]; omega
            clear hF
            go_wp2_with (go_at_call 10; refine HA.out.mono ?_; rintro e w2 ⟨rfl, hb2⟩; have HB2 := Lib.hid hb2; clear hb2)
            all_goals go_ret
            all_goals exact ⟨rfl, below_trans2 HBR.out HB2.out⟩
          · have hBI : ((L.length : Int) == 0) = false := beq_eq_false_iff_ne.2 (by omega)
            have hB0 : (0 : Int) < (L.length : Int) := by omega
            have hlt2 : (L.length : Int) < (xs.length : Int) := by omega
            obtain ⟨b2, o2, rfl, hb2lt, hcy⟩ := HS.out.ints (k := L.length) (by rw [HL.out]; omega)
            have cy := (HBR.out.cell (p := ⟨b2, o2 + L.length, none⟩) hb2lt).trans (hcy L.length (by rw [HL.out]; omega))
            have hF2 : S = limit ∨ ys.getD L.length 0 < 1 := by
              rcases hF with h | h | h | ⟨n, h, h'⟩
              · exact absurd (by rw [h]; rfl) hB
              · exact .inl h
              · exact absurd h hA
              · exact .inr (by rw [List.getD_eq_getElem?_getD, h]; exact h')
            generalize ys.getD L.length 0 = Y at *
            have hyb : True := trivial
            clear hF hcy
            by_cases hC : Y < 1
            · clear hF2
              go_wp2_with (go_at_call 10; refine HA.out.mono ?_; rintro e w2 ⟨rfl, hb2⟩; have HB2 := Lib.hid hb2; clear hb2)
              all_goals go_ret
              all_goals exact ⟨rfl, below_trans2 HBR.out HB2.out⟩
            · obtain rfl := hF2.resolve_right hC
              go_wp2_with (go_at_call 10; refine HA.out.mono ?_; rintro e w2 ⟨rfl, hb2⟩; have HB2 := Lib.hid hb2; clear hb2)
              all_goals go_ret
              all_goals exact ⟨rfl, below_trans2 HBR.out HB2.out⟩
  · have h60I : (60 : Int) < (xs.length : Int) := by omega
    have hcp60 : (60 : Int) ≤ (cp : Int) := by omega
    obtain ⟨ys, hys⟩ : ∃ ys, ys = xs.take 60 := ⟨_, rfl⟩
    have hyl : ys.length = 60 := by rw [hys, List.length_take]; omega
    have hs2 : Sl w (.slice a 60 cp) (ys.map (Value.int .i64)) := by rw [hys, List.map_take]; exact hs.take 60 (by simp; try omega)
    have hy64 : ∀ x ∈ ys, -9223372036854775808 ≤ x ∧ x ≤ 9223372036854775807 := fun x hx => hx64 x (List.mem_of_mem_take (by rw [← hys]; exact hx))
    have HC := Lib.hid (Cuts_any a cp ys index limit hy64 ⟨hi1, hi2⟩ ⟨hl1, hl2⟩ (by omega) w (by rw [hyl]; exact hs2))
    rw [hyl] at HC
    have HS := Lib.hid hs2
    have HL := Lib.hid hyl
    have HLAW := Lib.hid (cutsI_law ys index limit)
    have hlen := cutsI_length ys index limit
    rw [hyl] at hlen
    generalize cutsI ys index limit = L at *
    clear hs hs2 hx64 hys hyl
    have hlI : (L.length : Int) ≤ (60 : Int) := by omega
    go_enter Try.func3, Try.ntmps3
    go_wp2_with fail
    refine HC.out.mono ?_
    rintro e w1 ⟨v, rfl, hr, hb1⟩
    have hcr : CRow w1 v (rngs L) := CRow.of_owns (l := rngs L) (by rw [flatP_rngs]; simpa [rngs] using hr)
    obtain ⟨va, vc, rfl, hvc1, hvc2, _⟩ := id hcr
    have hrl : (rngs L).length = L.length := by simp [rngs]
    rw [hrl] at *
    have HCR := Lib.hid hcr
    have HB1 := Lib.hid hb1
    clear hcr hb1 hr HC
    go_wp2
    go_loopw [7, 23] (fun n i wr => ∃ (k : Nat) (S : Int), k ≤ L.length ∧ i = .int .i64 k ∧ n = .int .i64 S ∧ Hid (S = sumC (L.take k)) ∧ Below w.heap.size w wr ∧ Below w1.heap.size w1 wr) (fun _ i _ => L.length - (intOf i).toNat)
    case atStart => exact ⟨0, 0, by omega, rfl, rfl, by simp [Hid, sumC], HB1.out, Below.refl _ _⟩
    case round =>
      obtain ⟨k, S, hk, rfl, rfl, HSUM, hbr, hbw⟩ := hrel
      by_cases hlt : k < L.length
      · obtain ⟨c, hc⟩ : ∃ c, L[k]? = some c := ⟨L[k], List.getElem?_eq_getElem hlt⟩
        obtain ⟨b1, o1, rfl, hblt, cx1, cx2⟩ := HCR.out.at (k := k) (p := (c.lo, c.hi)) (by simp [rngs, hc])
        have dx1 := (hbw.cell (p := ⟨b1, o1 + k * 2, none⟩) hblt).trans cx1
        have dx2 := (hbw.cell (p := ⟨b1, o1 + k * 2 + 1, none⟩) hblt).trans cx2
        dsimp only at dx1 dx2
        obtain ⟨q1, q2, _⟩ := HLAW.out.1 c (List.mem_of_getElem? hc)
        have hsplit : L = L.take k ++ c :: L.drop (k + 1) := by
          rw [List.getElem?_eq_getElem hlt] at hc
          cases hc
          rw [← List.drop_eq_getElem_cons hlt, List.take_append_drop]
        have q3 := HLAW.out.2.1 _ _ _ hsplit
        have q4 : 0 ≤ sumC (L.take k) := by have := sumC_nonneg (L.take k) (fun d hd => (HLAW.out.1 d (List.mem_of_mem_take hd)).2.1); omega
        rw [← HSUM.out] at q3 q4
        have HSN := Lib.hid (show S + (c.hi - c.lo) = sumC (L.take (k + 1)) by
          rw [HSUM.out]
          rw [List.getElem?_eq_getElem hlt] at hc
          cases hc
          rw [List.take_add_one, List.getElem?_eq_getElem hlt]
          exact (sumC_snoc _ _).symm)
        generalize c.lo = x1 at *
        generalize c.hi = x2 at *
        have HBR := Lib.hid hbr
        have HBW := Lib.hid hbw
        have hsz := hbr.size
        have hsz2 := hbw.size
        have HLT := Lib.hid hlt
        clear hsplit cx1 cx2 hc hbr hbw
        go_wp2
        exact ⟨⟨k + 1, _, HLT.out, by simp, rfl, HSN, HBR.out.alloc hsz _, HBW.out.alloc hsz2 _⟩, by simp [intOf]; have := HLT.out; omega⟩
      · obtain rfl : k = L.length := by omega
        have hF := HLAW.out.2.2
        have HS2 := HSUM.out
        rw [List.take_length] at HS2
        rw [← HS2, HL.out] at hF
        have HBR := Lib.hid hbr
        have HA := Lib.hid (awake19_any wr)
        have hbsz := hbr.size
        clear HLAW HCR HSUM HS2 hbr hbw
        by_cases hA : L.length = 60
        · have hAI : ((L.length : Int) == 60) = true := by simp [hA]
          clear hF
          go_wp2_with (go_at_call 10; refine HA.out.mono ?_; rintro e w2 ⟨rfl, hb2⟩; have HB2 := Lib.hid hb2; clear hb2)
          all_goals go_ret
          all_goals exact ⟨rfl, below_trans2 HBR.out HB2.out⟩
        · have hAI : ((L.length : Int) == 60) = false := by simp; omega
          by_cases hB : L.length = 0
          · have hBI : ((L.length : Int) == 0) = true := by simp [hB]
            have hB0 : ¬ (0 : Int) < (L.length : Int) := by omega
            have hxo : 0 < ys.length := by rw [HL.out]; omega
            clear hF
            go_wp2_with (go_at_call 10; refine HA.out.mono ?_; rintro e w2 ⟨rfl, hb2⟩; have HB2 := Lib.hid hb2; clear hb2)
            all_goals go_ret
            all_goals exact ⟨rfl, below_trans2 HBR.out HB2.out⟩
          · have hBI : ((L.length : Int) == 0) = false := beq_eq_false_iff_ne.2 (by omega)
            have hB0 : (0 : Int) < (L.length : Int) := by omega
            have hlt2 : (L.length : Int) < (60 : Int) := by omega
            obtain ⟨b2, o2, rfl, hb2lt, hcy⟩ := HS.out.ints (k := L.length) (by rw [HL.out]; omega)
            have cy := (HBR.out.cell (p := ⟨b2, o2 + L.length, none⟩) hb2lt).trans (hcy L.length (by rw [HL.out]; omega))
            have hF2 : S = limit ∨ ys.getD L.length 0 < 1 := by
              rcases hF with h | h | h | ⟨n, h, h'⟩
              · exact absurd (by rw [h]; rfl) hB
              · exact .inl h
              · exact absurd h hA
              · exact .inr (by rw [List.getD_eq_getElem?_getD, h]; exact h')
            generalize ys.getD L.length 0 = Y at *
            have hyb : True := trivial
            clear hF hcy
            by_cases hC : Y < 1
            · clear hF2
              go_wp2_with (go_at_call 10; refine HA.out.mono ?_; rintro e w2 ⟨rfl, hb2⟩; have HB2 := Lib.hid hb2; clear hb2)
              all_goals go_ret
              all_goals exact ⟨rfl, below_trans2 HBR.out HB2.out⟩
            · obtain rfl := hF2.resolve_right hC
              go_wp2_with (go_at_call 10; refine HA.out.mono ?_; rintro e w2 ⟨rfl, hb2⟩; have HB2 := Lib.hid hb2; clear hb2)
              all_goals go_ret
              all_goals exact ⟨rfl, below_trans2 HBR.out HB2.out⟩

end Go.Proofs.Yteaimjfpmacgeaa
