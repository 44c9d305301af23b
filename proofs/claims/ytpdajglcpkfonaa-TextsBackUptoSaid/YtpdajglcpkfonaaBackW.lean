/- The walk of the law TextsBack. -/
import Derived.Test.YtpdajglcpkfonaaSplitW
namespace Go.Proofs.Ytpdajglcpkfonaa
open Go.RowKit
set_option linter.unusedVariables false

theorem code_zero {tag : Int} {ps : List (List Int)} (h : codeT tag ps = 0) : (0 ≤ tag ∧ tag ≤ 255) ∧ (∀ p ∈ ps, p.length ≤ 65535) ∧ contT tag ps = textI tag ps := by
  unfold codeT at h
  split at h
  · omega
  · rename_i h1
    split at h
    · omega
    · rename_i h2
      refine ⟨by omega, fun p hp => ?_, by unfold contT; rw [if_neg h1, if_neg h2]⟩
      rcases Nat.lt_or_ge 65535 p.length with h | h
      · exact absurd ⟨p, hp, h⟩ h2
      · exact h

theorem contT_isB (tag : Int) (pss : List (List Int)) (h : ∀ p ∈ pss, IsB p) : IsB (contT tag pss) := by
  unfold contT
  split
  · intro x hx; cases hx
  · split
    · intro x hx; cases hx
    · intro x hx
      simp only [textI, List.mem_cons, List.mem_flatMap] at hx
      rcases hx with rfl | ⟨p, hp, rfl | rfl | hx⟩
      · omega
      · omega
      · omega
      · exact h p hp x hx

/-- What was made is taken apart. -/
theorem made_split {tag : Int} {ps : List (List Int)} (h : codeT tag ps = 0) : tagS (contT tag ps) = tag ∧ codeS (contT tag ps) = 0 ∧ partsS (contT tag ps) = ps := by
  obtain ⟨_, h2, h3⟩ := code_zero h
  rw [h3]
  have := spl_flat ps h2
  simp [textI, tagS, codeS, partsS, this]

theorem made_len {tag : Int} {ps : List (List Int)} (hl : ps.length ≤ 10) (h : codeT tag ps = 0) : (contT tag ps).length ≤ 1048576 := by
  obtain ⟨_, h2, h3⟩ := code_zero h
  rw [h3]
  have := textI_len tag ps h2
  omega

theorem flat_ge (ps : List (List Int)) : 2 * ps.length ≤ (ps.flatMap fun p => (p.length : Int) / 256 % 256 :: (p.length : Int) % 256 :: p).length := by
  induction ps with
  | nil => simp
  | cons p ps ih => simp only [List.flatMap_cons, List.length_append, List.length_cons] at *; omega

/-- What was taken apart is made again. -/
theorem split_made {bs : List Int} (hB : IsB bs) (h : codeS bs = 0) : codeT (tagS bs) (partsS bs) = 0 ∧ contT (tagS bs) (partsS bs) = bs ∧ 2 * (partsS bs).length ≤ bs.length := by
  cases bs with
  | nil => simp [codeS] at h
  | cons t r =>
    cases hq : spl r with
    | none => simp [codeS, hq] at h
    | some ps =>
      have ht := hB t (by simp)
      obtain ⟨e1, e2⟩ := flat_spl r ps (fun x hx => hB x (by simp [hx])) hq
      have e3 : ¬ (t < 0 ∨ 255 < t) := by omega
      have e4 : ¬ ∃ p ∈ ps, 65535 < p.length := by
        rintro ⟨p, hp, hl⟩
        have := (e2 p hp).1
        omega
      have e5 := flat_ge ps
      rw [e1] at e5
      simp only [tagS, partsS, hq, Option.isSome_some, if_true, Option.getD_some]
      refine ⟨by unfold codeT; rw [if_neg e3, if_neg e4], by unfold contT; rw [if_neg e3, if_neg e4]; unfold textI; rw [e1], by simp; omega⟩

set_option maxHeartbeats 1000000 in
theorem textsBack_walk (tag : Int) (v : Value) (ps0 : List (List Int)) (v2 : Value) (bs : List Int) (w : World) (ht0 : -9223372036854775808 ≤ tag) (ht1 : tag ≤ 9223372036854775807) (hP0 : ∀ p ∈ ps0, IsB p) (hS0 : Sls w v ps0)
    (hn : bs.length ≤ 1048576) (hB : IsB bs) (hs : Sl w v2 (bs.map (Value.int .u8))) :
    Calls Try.prog 3 #[.int .i64 tag, v, v2] w fun e w' => e = .returned (.bool true) ∧ Below w.heap.size w w' := by
  have HN := Lib.hid hn
  clear hn
  go_enter Try.func3, Try.ntmps3
  go_wp2_with fail
  refine (few_any v ps0 w hS0).mono ?_
  rintro e w0 ⟨u, rfl, hS, rfl⟩
  have hP : ∀ p ∈ ps0.take 10, IsB p := fun p hp => hP0 p (List.mem_of_mem_take hp)
  have hL : Hid ((ps0.take 10).length ≤ 10) := by show _ ≤ _; rw [List.length_take]; omega
  generalize ps0.take 10 = ps at *
  clear hP0 hS0
  go_wp2_with fail
  refine (text_any tag u ps w (Nat.le_trans hL.out (by decide)) ht0 ht1 hS).mono ?_
  rintro e w1 ⟨x, rfl, hx, hb1⟩
  have hS := hS.below hb1 (Nat.le_refl _)
  have hs := hs.below hb1 (Nat.le_refl _)
  by_cases hc : codeT tag ps = 0
  · have hM := Lib.hid (made_split hc)
    have hML := made_len hL.out hc
    have HSP := Lib.hid (split_any x (contT tag ps) w1 hML (contT_isB tag ps hP) hx)
    rw [hM.out.1, hM.out.2.1, hM.out.2.2] at HSP
    rw [hc]
    clear hc hML hx hM
    go_wp2_with fail
    refine HSP.out.mono ?_
    rintro e w2 ⟨m, rfl, hm, hb2⟩
    have hS := hS.below hb2 (Nat.le_refl _)
    have hs := hs.below hb2 (Nat.le_refl _)
    have hbr := below_trans2 hb1 hb2
    have HS := Lib.hid (sameTexts_any u m _ _ w2 hS hm hP hP)
    rw [decide_eq_true rfl] at HS
    clear hb1 hb2 HSP hm hS
    go_wp2_with fail
    refine HS.out.mono ?_
    rintro e w4 ⟨rfl, rfl⟩
    clear HS
    go_wp2_with fail
    refine (split_any v2 bs w2 HN.out hB hs).mono ?_
    rintro e w3 ⟨m3, rfl, hm3, hb3⟩
    have hs := hs.below hb3 (Nat.le_refl _)
    have hbr := below_trans2 hbr hb3
    clear hb3
    by_cases hcs : codeS bs = 0
    · have hM := Lib.hid (split_made hB hcs)
      have htb : -9223372036854775808 ≤ tagS bs ∧ tagS bs ≤ 9223372036854775807 := by have := (code_zero hM.out.1).1; omega
      have HX := Lib.hid (text_any (tagS bs) m3 (partsS bs) w3 (by have := hM.out.2.2; have := HN.out; omega) htb.1 htb.2 hm3)
      rw [hM.out.1, hM.out.2.1] at HX
      rw [hcs]
      generalize tagS bs = tg at *
      clear hcs hM htb hm3
      go_wp2_with fail
      refine HX.out.mono ?_
      rintro e w5 ⟨x5, rfl, hx5, hb5⟩
      have hs := hs.below hb5 (Nat.le_refl _)
      have hbr := below_trans2 hbr hb5
      have HE := Lib.hid (bytesEq_same x5 v2 bs w5 hx5 hs hB)
      clear hb5 HX hx5
      go_wp2_with fail
      refine HE.out.mono ?_
      rintro e w6 ⟨rfl, rfl⟩
      go_wp2_with fail
      refine (textsAwake_any _).mono ?_
      rintro e w7 ⟨rfl, hb7⟩
      have hbr := below_trans2 hbr hb7
      go_wp2
      go_ret
      exact ⟨rfl, hbr⟩
    · generalize codeS bs = cs at *
      generalize tagS bs = tg at *
      clear hm3
      go_wp2_with fail
      refine (textsAwake_any _).mono ?_
      rintro e w7 ⟨rfl, hb7⟩
      have hbr := below_trans2 hbr hb7
      go_wp2
      go_ret
      exact ⟨rfl, hbr⟩
  · clear hx hS
    have hbr := hb1
    generalize codeT tag ps = cd at *
    clear hb1
    generalize w1 = w2 at *
    go_wp2_with fail
    refine (split_any v2 bs w2 HN.out hB hs).mono ?_
    rintro e w3 ⟨m3, rfl, hm3, hb3⟩
    have hs := hs.below hb3 (Nat.le_refl _)
    have hbr := below_trans2 hbr hb3
    clear hb3
    by_cases hcs : codeS bs = 0
    · have hM := Lib.hid (split_made hB hcs)
      have htb : -9223372036854775808 ≤ tagS bs ∧ tagS bs ≤ 9223372036854775807 := by have := (code_zero hM.out.1).1; omega
      have HX := Lib.hid (text_any (tagS bs) m3 (partsS bs) w3 (by have := hM.out.2.2; have := HN.out; omega) htb.1 htb.2 hm3)
      rw [hM.out.1, hM.out.2.1] at HX
      rw [hcs]
      generalize tagS bs = tg at *
      clear hcs hM htb hm3
      go_wp2_with fail
      refine HX.out.mono ?_
      rintro e w5 ⟨x5, rfl, hx5, hb5⟩
      have hs := hs.below hb5 (Nat.le_refl _)
      have hbr := below_trans2 hbr hb5
      have HE := Lib.hid (bytesEq_same x5 v2 bs w5 hx5 hs hB)
      clear hb5 HX hx5
      go_wp2_with fail
      refine HE.out.mono ?_
      rintro e w6 ⟨rfl, rfl⟩
      go_wp2_with fail
      refine (textsAwake_any _).mono ?_
      rintro e w7 ⟨rfl, hb7⟩
      have hbr := below_trans2 hbr hb7
      go_wp2
      go_ret
      exact ⟨rfl, hbr⟩
    · generalize codeS bs = cs at *
      generalize tagS bs = tg at *
      clear hm3
      go_wp2_with fail
      refine (textsAwake_any _).mono ?_
      rintro e w7 ⟨rfl, hb7⟩
      have hbr := below_trans2 hbr hb7
      go_wp2
      go_ret
      exact ⟨rfl, hbr⟩

end Go.Proofs.Ytpdajglcpkfonaa
