
/- seglog.next: the walk. Conditions: sectors of 64 bytes. -/
import Derived.Test.YtgfkejecigefbaaDoorSgC
import Derived.Test.YtgfkejecigefbaaDoorSgT
import Derived.Test.YtgfkejecigefbaaDoorSame
namespace Go.Proofs.YtgfkejecigefbaaDoor
open Go.RowKit
set_option linter.unusedVariables false

theorem getD_mem {pss : List (List Int)} {k : Nat} (h : k < pss.length) : pss.getD k [] ∈ pss := by
  rw [List.getD_eq_getElem?_getD, List.getElem?_eq_getElem h]; exact List.getElem_mem h

theorem Sl.part {w : World} {b o n c : Nat} {bs : List Int} (h : Sl w (.slice (some ⟨b, o, none⟩) n c) (bs.map (Value.int .u8))) (i m c' : Nat) (hm : i + m ≤ bs.length) (hc1 : m ≤ c') (hc2 : c' ≤ maxLen) : Sl w (.slice (some ⟨b, o + i, none⟩) m c') (((bs.drop i).take m).map (Value.int .u8)) := by
  obtain ⟨a, c0, e, h1, h2, h3⟩ := h
  rw [List.length_map] at e h1 h3
  cases e
  have hl : (((bs.drop i).take m).map (Value.int .u8)).length = m := by rw [List.length_map, List.length_take, List.length_drop]; omega
  refine ⟨_, c', by rw [hl], by rw [hl]; exact hc1, hc2, fun hp => ?_⟩
  obtain ⟨b', o', e, hlt, hc⟩ := h3 (by rw [hl] at hp; omega)
  cases e
  refine ⟨b, o + i, rfl, hlt, fun j u hu => ?_⟩
  rw [List.getElem?_map, List.getElem?_take] at hu
  split at hu
  · rw [List.getElem?_drop, ← List.getElem?_map] at hu
    have := hc _ u hu
    rwa [← Nat.add_assoc] at this
  · cases hu
theorem nextI_no {img : List (List Int)} {num : Int} (h : ¬ nextFit img) : nextI img num = none := by
  unfold nextI nextOk
  rw [decide_eq_false (fun q => h q.1)]
  rfl
def nextX (img : List (List Int)) (num : Int) (x : Value) (ln : Int) (ok : Bool) (w : World) (base : Nat) : Prop :=
  (ok = true → ∃ n : Nat, ln = n ∧ nextI img num = some (bodyI img, n) ∧ TB w base x (bodyI img)) ∧ (ok = false → nextI img num = none)

set_option maxRecDepth 100000 in
set_option maxHeartbeats 4000000 in
theorem next_any (v : Value) (pss : List (List Int)) (num : Int) (w : World) (hn0 : -9223372036854775808 ≤ num) (hn1 : num ≤ 9223372036854775807) (hlen : pss.length ≤ 16384) (h64 : ∀ p ∈ pss, p.length = 64) (hB : ∀ p ∈ pss, IsB p) (ht : Tabs w) (h : Sls w v pss) :
    Calls Tryd.prog 39 #[v, .int .i64 num] w fun e w' => ∃ xa xn xc ln ok, e = .returned (.tuple #[.slice xa xn xc, .int .i64 ln, .bool ok]) ∧ nextX pss num (.slice xa xn xc) ln ok w' w.heap.size ∧ Below w.heap.size w w' := by
  obtain ⟨a, cp, rfl, hc, hm⟩ := h.shape
  have HH := Lib.hid h
  clear h
  by_cases h0 : pss.length = 0
  · obtain rfl : pss = [] := List.eq_nil_of_length_eq_zero h0
    simp only [List.length_nil] at *
    go_enter Tryd.func39, Tryd.ntmps39
    go_wp2
    refine bodyPost_ret (results_tmp3 rfl _ _ _) rfl ?_
    refine ⟨_, _, _, _, _, rfl, ⟨fun e => (by cases e), fun _ => ?_⟩, Below.refl _ _⟩
    unfold nextI nextOk
    rw [decide_eq_false (by rintro ⟨⟨_, _, q⟩, _⟩; simp at q)]
    rfl
  · have hzI : ((pss.length : Int) == 0) = false := by rw [beq_eq_false_iff_ne]; omega
    have hpos : 0 < pss.length := by omega
    obtain ⟨ba, bo, rfl, hltb, u, hu, hus⟩ := HH.out.at hpos
    have hbd := lenAt_bd hB
    obtain ⟨N, hN⟩ : ∃ N : Nat, lenAt pss = N := ⟨(lenAt pss).toNat, by omega⟩
    rw [hN] at hbd
    have h64a := h64 (pss.getD 0 []) (getD_mem hpos)
    have HL := Lib.hid (show lenAt pss = valI (((pss.getD 0 []).drop 8).take 4) from rfl)
    have HBA := Lib.hid (hB _ (getD_mem hpos))
    generalize pss.getD 0 [] = p0 at *
    rw [Nat.add_zero] at hu
    have H64 := Lib.hid h64a
    obtain ⟨ua, uc, rfl, huc, hum⟩ := hus.shape
    rw [List.length_map, h64a] at huc hus hu
    obtain ⟨ub, uo, rfl, hltu, _⟩ := hus.addr (by rw [List.length_map, H64.out]; omega)
    have HUS := Lib.hid hus
    clear hus
    have HVL := Lib.hid (svalue_any _ ((p0.drop 8).take 4) w (by rw [List.length_take]; omega) ((HBA.out.drop 8).take 4) (HUS.out.part 8 4 (uc - 8) (by rw [H64.out]; omega) (by omega) (by unfold maxLen; omega)))
    rw [← HL.out, hN] at HVL
    go_enter Tryd.func39, Tryd.ntmps39
    go_wp2_with fail
    refine HVL.out.mono ?_
    rintro e w1 ⟨rfl, rfl⟩
    by_cases hN1 : N < 1
    · have hN1I : ((N : Int) < 1) := by omega
      have HNO := Lib.hid (show ¬ nextFit pss from fun q => by have := q.1; omega)
      clear hN
      go_wp2
      refine bodyPost_ret (results_tmp3 rfl _ _ _) rfl ?_
      exact ⟨_, _, _, _, _, rfl, ⟨fun e => (by cases e), fun _ => nextI_no HNO.out⟩, Below.refl _ _⟩
    · have hN1I : ¬ ((N : Int) < 1) := by omega
      by_cases hN2 : 4000 < N
      · have hN2I : ((4000 : Int) < N) := by omega
        have HNO := Lib.hid (show ¬ nextFit pss from fun q => by have := q.2.1; omega)
        clear hN
        go_wp2
        refine bodyPost_ret (results_tmp3 rfl _ _ _) rfl ?_
        exact ⟨_, _, _, _, _, rfl, ⟨fun e => (by cases e), fun _ => nextI_no HNO.out⟩, Below.refl _ _⟩
      · have hN2I : ¬ ((4000 : Int) < N) := by omega
        by_cases hN3 : (12 + (N : Int) - 1) / 64 + 1 < (pss.length : Int)
        · have hfit : (1 ≤ (N : Int) ∧ (N : Int) ≤ 4000) ∧ (12 + (N : Int) - 1) / 64 + 1 < (pss.length : Int) := ⟨⟨by omega, by omega⟩, hN3⟩
          obtain ⟨K, hK⟩ : ∃ K : Nat, (12 + (N : Int) - 1) / 64 + 1 = K := ⟨((12 + (N : Int) - 1) / 64 + 1).toNat, by omega⟩
          have HK := Lib.hid (show secsOf (lenAt pss) = K from by rw [hN]; unfold secsOf; omega)
          have HFIT := Lib.hid (show nextFit pss from ⟨by rw [hN]; omega, by rw [hN]; omega, by rw [HK.out]; omega⟩)
          have HNL := Lib.hid hN
          clear hN
          have hKl : K < pss.length := by omega
          have hKN : 12 + N ≤ 64 * K := by omega
          have hfl : (pss.take K).flatten.length = 64 * K := by rw [flat64_len (fun p hp => h64 p (List.mem_of_mem_take hp)), List.length_take]; omega
          have HCC := Lib.hid (concat_any _ _ w (by rw [hfl]; omega) (HH.out.take K (by omega)))
          have HFL := Lib.hid hfl
          have HBO := Lib.hid (show ((pss.take K).flatten.drop 12).take N = bodyI pss from by unfold bodyI; rw [HK.out, HNL.out]; rfl)
          have HBL := Lib.hid (show (bodyI pss).length = N from by rw [bodyI_len h64 HFIT.out, HNL.out]; rfl)
          have HBB := Lib.hid (bodyI_isB hB)
          have HLF := Lib.hid (laid_fit num h64 HFIT.out)
          have HLI := Lib.hid (laidI_isB num HBB.out)
          have HTAB := Lib.hid ht
          have HLH := Lib.hid hB
          have HKN := Lib.hid hKN
          clear hfl h64 hB ht hKN hN3 hN1 hN2
          generalize (pss.take K).flatten = F at *
          generalize hbod : bodyI pss = BD at *
          have HBOD := Lib.hid hbod
          clear hbod
          go_upto_region 7 with (fail)
          go_wp2_with fail
          refine HCC.out.mono ?_
          rintro e w2 ⟨x, rfl, hx, hb2⟩
          have hx : OB w2 w.heap.size x F := hx
          have hT := TB.ofOB hx (by rw [HFL.out]; have := HKN.out; omega)
          obtain ⟨g, o, c, rfl, hc1, hc2, _⟩ := id hT
          rw [HFL.out] at hT hc1 ⊢
          have hcI : 12 + N ≤ c := by have := HKN.out; omega
          have hP := hT.part 12 N (c - 12) (by rw [HFL.out]; exact HKN.out) (by omega) (by omega)
          rw [HBO.out] at hP
          unfold maxLen at hc2
          have HP := Lib.hid hP
          have HB2 := Lib.hid hb2
          have HLD := Lib.hid (laid_any num _ BD w2 hn0 hn1 (by rw [HBL.out]; omega) HBB.out (HTAB.out.below hb2) hP.sl)
          clear hx hT hP hb2 HCC
          go_wp2_with fail
          refine HLD.out.mono ?_
          rintro e w3 ⟨x3, rfl, hx3, hb3⟩
          obtain ⟨la, lc, rfl⟩ := hx3.val
          have HB3 := Lib.hid (below_trans2 HB2.out hb3)
          have HP3 := Lib.hid (HP.out.below hb3)
          have hL2 := HLF.out.2
          have HEQ := Lib.hid (equalFunc_any _ _ (laidI num BD) (pss.take (laidI num BD).length) w3 hx3.sls ((HH.out.below HB3.out (Nat.le_refl _)).take _ hL2) HLI.out (fun p hp => HLH.out p (List.mem_of_mem_take hp)))
          have HOK := Lib.hid (show nextOk pss num = decide (laidI num BD = pss.take (laidI num BD).length) from by
            unfold nextOk
            rw [HBOD.out]
            by_cases q : laidI num BD = pss.take (laidI num BD).length
            · rw [decide_eq_true ⟨HFIT.out, q⟩, decide_eq_true q]
            · rw [decide_eq_false (fun h => q h.2), decide_eq_false q])
          have HNX := Lib.hid (show nextOk pss num = true → nextI pss num = some (BD, (laidI num BD).length) from fun q => by unfold nextI; rw [if_pos q, HBOD.out])
          have HNN := Lib.hid (show nextOk pss num = false → nextI pss num = none from fun q => by unfold nextI; rw [q]; rfl)
          generalize (laidI num BD).length = L at *
          clear hx3 hb3 HLD HB2 HP HLF
          go_wp2_with fail
          refine HEQ.out.mono ?_
          rintro e w4 ⟨rfl, rfl⟩
          rw [← HOK.out]
          generalize nextOk pss num = ok at *
          have h12 : 12 + N - 12 = N := by omega
          go_wp2
          refine bodyPost_ret (results_tmp3 rfl _ _ _) rfl ?_
          refine ⟨_, _, _, _, _, rfl, ⟨fun q => ⟨L, rfl, (by rw [HBOD.out]; exact HNX.out q), ?_⟩, HNN.out⟩, HB3.out⟩
          rw [HBOD.out]
          exact HP3.out
        · have hno : ((N : Int) < 1 ∨ (4000 : Int) < N) ∨ (pss.length : Int) ≤ (12 + (N : Int) - 1) / 64 + 1 := Or.inr (by omega)
          have HNO := Lib.hid (show ¬ nextFit pss from fun q => by have := q.2.2; rw [hN] at this; unfold secsOf at this; omega)
          clear hN hN3
          go_wp2
          refine bodyPost_ret (results_tmp3 rfl _ _ _) rfl ?_
          exact ⟨_, _, _, _, _, rfl, ⟨fun e => (by cases e), fun _ => nextI_no HNO.out⟩, Below.refl _ _⟩

end Go.Proofs.YtgfkejecigefbaaDoor
