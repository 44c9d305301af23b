/- The walk of the law TextsApart. -/
import Derived.Test.YtmmkbahgeffmpaaTextAw
import Derived.Test.YtmmkbahgeffmpaaSame
namespace Go.Proofs.Ytmmkbahgeffmpaa
open Go.RowKit
set_option linter.unusedVariables false

theorem flat_inj : ∀ (ps qs : List (List Int)), (∀ p ∈ ps, p.length ≤ 65535) → (∀ p ∈ qs, p.length ≤ 65535) →
    (ps.flatMap fun p => (p.length : Int) / 256 % 256 :: (p.length : Int) % 256 :: p) = (qs.flatMap fun p => (p.length : Int) / 256 % 256 :: (p.length : Int) % 256 :: p) → ps = qs
  | [], [], _, _, _ => rfl
  | [], q :: qs, _, _, h => by simp at h
  | p :: ps, [], _, _, h => by simp at h
  | p :: ps, q :: qs, hp, hq, h => by
    simp only [List.flatMap_cons, List.cons_append, List.cons.injEq] at h
    obtain ⟨h1, h2, h3⟩ := h
    have l1 := hp p (by simp)
    have l2 := hq q (by simp)
    have hl : p.length = q.length := by omega
    obtain ⟨e1, e2⟩ := List.append_inj h3 hl
    rw [e1, flat_inj ps qs (fun x hx => hp x (by simp [hx])) (fun x hx => hq x (by simp [hx])) e2]

theorem short_of_code {tag : Int} {ps : List (List Int)} (h : codeT tag ps = 0) : (0 ≤ tag ∧ tag ≤ 255) ∧ (∀ p ∈ ps, p.length ≤ 65535) ∧ contT tag ps = textI tag ps := by
  unfold codeT at h
  split at h
  · omega
  · rename_i h1
    split at h
    · omega
    · rename_i h2
      refine ⟨by omega, fun p hp => ?_, by unfold contT; rw [if_neg h1, if_neg h2]⟩
      rcases Nat.lt_or_ge 65535 p.length with h | h
      · exact absurd ⟨p, hp, h⟩ h2
      · exact h

theorem text_inj {tag other : Int} {ps qs : List (List Int)} (h1 : codeT tag ps = 0) (h2 : codeT other qs = 0) : decide (contT tag ps = contT other qs) = (decide (tag = other) && decide (ps = qs)) := by
  obtain ⟨_, a2, a3⟩ := short_of_code h1
  obtain ⟨_, b2, b3⟩ := short_of_code h2
  rw [a3, b3, ← Bool.decide_and, decide_eq_decide]
  constructor
  · intro h
    simp only [textI, List.cons.injEq] at h
    exact ⟨h.1, flat_inj ps qs a2 b2 h.2⟩
  · rintro ⟨rfl, rfl⟩; rfl

theorem cont_isB (tag : Int) (pss : List (List Int)) (h : ∀ p ∈ pss, IsB p) : IsB (contT tag pss) := by
  unfold contT
  split
  · intro x hx; cases hx
  · split
    · intro x hx; cases hx
    · intro x hx
      simp only [textI, List.mem_cons, List.mem_flatMap] at hx
      rcases hx with rfl | ⟨p, hp, rfl | rfl | hx⟩
      · omega
      · omega
      · omega
      · exact h p hp x hx

set_option maxHeartbeats 1000000 in
theorem textsApart_walk (tag other : Int) (v1 : Value) (ps0 : List (List Int)) (v2 : Value) (qs0 : List (List Int)) (w : World) (ht0 : -9223372036854775808 ≤ tag) (ht1 : tag ≤ 9223372036854775807) (ho0 : -9223372036854775808 ≤ other) (ho1 : other ≤ 9223372036854775807)
    (hB1 : ∀ p ∈ ps0, IsB p) (hS1 : Sls w v1 ps0) (hB2 : ∀ p ∈ qs0, IsB p) (hS2 : Sls w v2 qs0) :
    Calls Try.prog 6 #[.int .i64 tag, .int .i64 other, v1, v2] w fun e w' => e = .returned (.bool true) ∧ Below w.heap.size w w' := by
  go_enter Try.func6, Try.ntmps6
  go_wp2_with fail
  refine (few_any v1 ps0 w hS1).mono ?_
  rintro e w0 ⟨u1, rfl, hS1, rfl⟩
  go_wp2_with fail
  refine (few_any v2 qs0 w hS2).mono ?_
  rintro e w0 ⟨u2, rfl, hS2, rfl⟩
  have hB1 : ∀ p ∈ ps0.take 10, IsB p := fun p hp => hB1 p (List.mem_of_mem_take hp)
  have hB2 : ∀ p ∈ qs0.take 10, IsB p := fun p hp => hB2 p (List.mem_of_mem_take hp)
  have hL1 : (ps0.take 10).length ≤ 1000000 := by rw [List.length_take]; omega
  have hL2 : (qs0.take 10).length ≤ 1000000 := by rw [List.length_take]; omega
  generalize ps0.take 10 = ps at *
  generalize qs0.take 10 = qs at *
  have HL := Lib.hid (And.intro hL1 hL2)
  clear hL1 hL2
  go_wp2_with fail
  refine (text_any tag u1 ps w HL.out.1 ht0 ht1 hS1).mono ?_
  rintro e w1 ⟨x1, rfl, hx1, hb1⟩
  have hS1 := hS1.below hb1 (Nat.le_refl _)
  have hS2 := hS2.below hb1 (Nat.le_refl _)
  go_wp2_with fail
  refine (text_any other u2 qs w1 HL.out.2 ho0 ho1 hS2).mono ?_
  rintro e w2 ⟨x2, rfl, hx2, hb2⟩
  have hS1 := hS1.below hb2 (Nat.le_refl _)
  have hS2 := hS2.below hb2 (Nat.le_refl _)
  have hx1 := hx1.below hb2 (Nat.le_refl _)
  have hb12 := below_trans2 hb1 hb2
  clear hb1 hb2
  by_cases hc1 : codeT tag ps = 0
  · by_cases hc2 : codeT other qs = 0
    · have HI := Lib.hid (text_inj hc1 hc2)
      rw [hc1, hc2]
      have HE := Lib.hid (bytesEq_any x1 x2 _ _ w2 hx1 hx2 (cont_isB tag ps hB1) (cont_isB other qs hB2))
      rw [HI.out] at HE
      have HS := Lib.hid (sameTexts_any u1 u2 ps qs w2 hS1 hS2 hB1 hB2)
      clear hc1 hc2 hx1 hx2 hS1 hS2 hB1 hB2
      by_cases hto : tag = other
      · rw [show decide (tag = other) = true by simpa using hto, Bool.true_and] at HE
        go_wp2_with fail
        refine HE.out.mono ?_
        rintro e w3 ⟨rfl, rfl⟩
        go_wp2_with fail
        refine HS.out.mono ?_
        rintro e w3 ⟨rfl, rfl⟩
        go_wp2_with fail
        refine (textsAwake_any w2).mono ?_
        rintro e w4 ⟨rfl, hb4⟩
        have hb14 := below_trans2 hb12 hb4
        go_wp2
        go_ret
        exact ⟨rfl, hb14⟩
      · rw [show decide (tag = other) = false by simpa using hto, Bool.false_and] at HE
        go_wp2_with fail
        refine HE.out.mono ?_
        rintro e w3 ⟨rfl, rfl⟩
        go_wp2_with fail
        refine (textsAwake_any w2).mono ?_
        rintro e w4 ⟨rfl, hb4⟩
        have hb14 := below_trans2 hb12 hb4
        go_wp2
        go_ret
        exact ⟨rfl, hb14⟩
    · rw [hc1]
      have hcI : ¬ codeT other qs = 0 := hc2
      generalize codeT other qs = c2 at *
      clear hc2 hx1 hx2 hS1 hS2
      go_wp2_with fail
      refine (textsAwake_any w2).mono ?_
      rintro e w4 ⟨rfl, hb4⟩
      have hb14 := below_trans2 hb12 hb4
      go_wp2
      go_ret
      exact ⟨rfl, hb14⟩
  · generalize codeT tag ps = c1 at *
    generalize codeT other qs = c2 at *
    clear hx1 hx2 hS1 hS2
    go_wp2_with fail
    refine (textsAwake_any w2).mono ?_
    rintro e w4 ⟨rfl, hb4⟩
    have hb14 := below_trans2 hb12 hb4
    go_wp2
    go_ret
    exact ⟨rfl, hb14⟩

end Go.Proofs.Ytmmkbahgeffmpaa
