import Derived.Test.YtkabinicmdcbpaaDoorMerG
namespace Go.Proofs.YtkabinicmdcbpaaDoor
open Go.RowKit
set_option linter.unusedVariables false

theorem Sls.dropAdd {w : World} {a : Option Addr} {n cap : Nat} {pss : List (List Int)} (h : Sls w (.slice a n cap) pss) (k : Nat) (hk : k ≤ pss.length) :
    Sls w (.slice (if cap = k then a else Option.map (fun x => x.add k) a) (n - k) (cap - k)) (pss.drop k) := by
  by_cases hp : 0 < pss.length
  · obtain ⟨b, off, rfl, hb, _⟩ := h.at (k := 0) hp
    have hd := h.drop k hk
    by_cases hck : cap = k
    · rw [if_pos hck] at hd ⊢; exact hd
    · rw [if_neg hck] at hd ⊢
      rw [Option.map_some] at hd ⊢
      by_cases h0 : k = 0
      · subst h0; simpa [Addr.add] using hd
      · simpa [Addr.add, h0] using hd
  · obtain rfl : pss = [] := List.length_eq_zero_iff.1 (by omega)
    obtain rfl : k = 0 := by simpa using hk
    obtain ⟨vs, h1, h2, h3⟩ := h
    obtain ⟨x, y, hx, hy, hz, _⟩ := h1
    cases hx
    have h0 : vs = [] := List.length_eq_zero_iff.1 (by simpa using h2)
    subst h0
    exact ⟨[], ⟨_, cap, rfl, by simp, by simpa using hz, by simp⟩, rfl, fun i u bs hu _ => by simp at hu⟩

theorem back_call (L : List (List Int)) (hB : ∀ p ∈ L, IsB p) (h4 : ∀ p ∈ L, p.length = 4) (hN : L.length ≤ 40) (fr te : Nat) (h1 : fr ≤ te) (h2 : te ≤ L.length) (iv ov : Value) (w : World)
    (hi : Sls w iv ((L.drop fr).take (te - fr))) (ho : Sls w ov (partsI 4 L (outs fr te 0 L.length))) (ht : Tabs w) :
    Calls Tryd.prog 30 #[.int .i64 4, .int .i64 L.length, .int .i64 fr, iv, ov] w fun e w' => ∃ x, e = .returned (.tuple #[x, .int .i64 0]) ∧ Sl w' x ((rootI 4 L).map (Value.int .u8)) ∧ Below w.heap.size w w' := by
  obtain ⟨e1, e2, e3, e4, e5, e6⟩ := back_fold L h4 hN fr te h1 h2
  have hs : (fr : Int) + (((L.drop fr).take (te - fr)).length : Nat) = (te : Int) := by rw [e1]; omega
  have hF := fold_ok 4 L.length fr iv ((L.drop fr).take (te - fr)) ov (partsI 4 L (outs fr te 0 L.length)) w (by omega) (by omega) (by rw [e1]; omega) (by rw [hs]; exact e2) e3 e4 (by rw [hs]; exact e5)
    (fun p hp => hB p (List.mem_of_mem_drop (List.mem_of_mem_take hp))) (fun p hp => by
      unfold partsI at hp
      obtain ⟨q, _, rfl⟩ := List.mem_map.1 hp
      exact rootI_isB 4 _ (fun p hp => hB p (List.mem_of_mem_drop (List.mem_of_mem_take hp)))) hi ho ht
  have he : foldC 4 L.length fr ((L.drop fr).take (te - fr)) (partsI 4 L (outs fr te 0 L.length)) = rootI 4 L := by
    unfold foldC
    split
    · rename_i h0
      obtain rfl : L = [] := List.length_eq_zero_iff.1 h0
      rw [rootI_zero]; rfl
    · rw [hs]; exact e6 (by omega)
  rw [he] at hF
  exact hF

set_option maxRecDepth 100000 in
set_option maxHeartbeats 2000000 in
theorem merkleBack_walk (v : Value) (l : List (List Int)) (f0 t0 : Int) (w : World) (ht : Tabs w) (hB0 : ∀ p ∈ l, IsB p) (hs0 : Sls w v l) (b0 : -9223372036854775808 ≤ f0) (b1 : f0 ≤ 9223372036854775807) (c0 : -9223372036854775808 ≤ t0) (c1 : t0 ≤ 9223372036854775807) :
    Calls Tryd.prog 7 #[v, .int .i64 f0, .int .i64 t0] w fun e w' => e = .returned (.bool true) ∧ Below w.heap.size w w' := by
  have HSZ := Lib.hid (sized_any v l w hs0)
  have hB := few40_isB hB0
  have h4 : ∀ p ∈ padAll (l.take 40) 40, p.length = 4 := padAll_four _ _
  have hN : (padAll (l.take 40) 40).length ≤ 40 := by rw [padAll_len]; omega
  generalize padAll (l.take 40) 40 = L at *
  clear hB0 hs0
  have h1 := u64_rem f0 ((L.length : Int) + 1) (by omega) (by omega)
  generalize hF : wrap64 ((IntKind.u64.wrap f0).tmod ((L.length : Int) + 1)) = F at h1
  obtain ⟨f, rfl⟩ : ∃ n : Nat, F = n := ⟨F.toNat, by omega⟩
  have h2 := u64_rem t0 ((L.length : Int) - (f : Int) + 1) (by omega) (by omega)
  generalize hT : wrap64 ((IntKind.u64.wrap t0).tmod ((L.length : Int) - (f : Int) + 1)) = T at h2
  obtain ⟨d, rfl⟩ : ∃ n : Nat, T = n := ⟨T.toNat, by omega⟩
  obtain ⟨t, hdt⟩ : ∃ t : Nat, t = f + d := ⟨_, rfl⟩
  have htw : IntKind.i64.wrap ((f : Int) + (d : Int)) = (t : Int) := by rw [IntKind.wrap_i64]; omega
  have hft : f ≤ t := by omega
  have htL : t ≤ L.length := by omega
  have HFD := Lib.hid (back_call L hB h4 hN f t hft htL)
  have HFA := Lib.hid (back_call L hB h4 hN 0 L.length (by omega) (by omega))
  rw [outs_none (.inr (by omega))] at HFA
  rw [show partsI 4 L [] = [] from rfl, List.drop_zero, Nat.sub_zero, List.take_length] at HFA
  have HPO := Lib.hid (back_fold L h4 hN f t hft htL).2.1
  have HL4 := Lib.hid (rootI_four _ L (Nat.le_refl _) h4)
  have HPL : ∀ p ∈ L, p.length ≤ 140737488351232 := fun p hp => by rw [h4 p hp]; omega
  have HRT := Lib.hid (fun v w1 (hs : Sls w1 v L) (ht : Tabs w1) => root_any 4 L.length L (Nat.le_refl _) v w1 (by omega) hB HPL hs ht)
  have HRB := Lib.hid (rootI_isB 4 L hB)
  have HRG := Lib.hid (fun v (f t : Int) w1 (hs : Sls w1 v L) (ht : Tabs w1) => range_any 4 v L f t w1 (by omega) hB HPL hs ht)
  have HCN := Lib.hid (fun w1 => count_any L.length f t w1 (by omega) (by omega))
  generalize rootI 4 L = RR at *
  have HDT := Lib.hid hdt
  clear hdt hB HPL h4
  go_enter Tryd.func7, Tryd.ntmps7
  go_wp2_with fail
  refine HSZ.out.mono ?_
  rintro e w1 ⟨x, rfl, hO, hb1⟩
  obtain ⟨a, c, rfl⟩ := hO.val
  have hs := hO.sls
  have ht1 := ht.below hb1
  clear hO HSZ
  obtain ⟨_, _, hsh, hc, hm⟩ := hs.shape
  cases hsh
  have hfc : (f : Int) ≤ (c : Int) := by omega
  have htc : (t : Int) ≤ (c : Int) := by omega
  go_wp2_with fail
  refine (HRT.out _ _ hs ht1).mono ?_
  rintro e w2 ⟨r, rfl, hr, hb2⟩
  obtain ⟨ra, rc, rfl, _, _⟩ := hr.shape
  rw [List.length_map, HL4.out] at hr ⊢
  have hs2 := hs.below hb2 (Nat.le_refl _)
  have ht2 := ht1.below hb2
  have hb2 := hb1.trans (hb2.mono hb1.size)
  clear hs ht1 hb1 HRT
  go_wp2_with fail
  refine (HRG.out _ f t _ hs2 ht2).mono ?_
  rintro e w3 ⟨o, rfl, ho, hb3⟩
  rw [if_pos ⟨by omega, by omega, by omega⟩] at ho
  have hs3 := hs2.below hb3 (Nat.le_refl _)
  have ht3 := ht2.below hb3
  have hr3 := hr.below hb3 (Nat.le_refl _)
  have hb3 := hb2.trans (hb3.mono hb2.size)
  clear hs2 ht2 hr hb2
  obtain ⟨oa, oc, rfl, _, _⟩ := ho.shape
  rw [HPO.out] at ho ⊢
  have hsd := (hs3.dropAdd f (by omega)).take (t - f) (by rw [List.length_drop]; omega)
  generalize partsI 4 L (outs f t 0 L.length) = OS at *
  generalize (L.drop f).take (t - f) = IN at *
  go_wp2_with fail
  case' inl =>
    have hcf : c = f := by assumption
    rw [if_pos hcf, hcf, Nat.sub_self] at hsd
    rw [hcf] at hs3
  case' inr => rw [if_neg (by assumption)] at hsd
  all_goals
    refine (HFD.out _ _ _ hsd ho ht3).mono ?_
    rintro e w4 ⟨x1, rfl, hx1, hb4⟩
    have hs4 := hs3.below hb4 (Nat.le_refl _)
    have ho4 := ho.below hb4 (Nat.le_refl _)
    have hr4 := hr3.below hb4 (Nat.le_refl _)
    have ht4 := ht3.below hb4
    have hb4 := hb3.trans (hb4.mono hb3.size)
    clear hs3 ho hr3 ht3 hsd
    go_wp2_with fail
    refine (HFA.out _ _ _ hs4 ⟨[], Sl.nil _, rfl, fun i u bs hu _ => by simp at hu⟩ ht4).mono ?_
    rintro e w5 ⟨x2, rfl, hx2, hb5⟩
    have hs5 := hs4.below hb5 (Nat.le_refl _)
    have ho5 := ho4.below hb5 (Nat.le_refl _)
    have hr5 := hr4.below hb5 (Nat.le_refl _)
    have hx1 := hx1.below hb5 (Nat.le_refl _)
    have ht5 := ht4.below hb5
    have hb5 := hb4.trans (hb5.mono hb4.size)
    clear hs4 ho4 hr4 ht4
    have HE1 := Lib.hid (bytesEq_same _ _ RR w5 hx1 hr5 HRB.out)
    have HE2 := Lib.hid (bytesEq_same _ _ RR w5 hx2 hr5 HRB.out)
    have HRG2 := Lib.hid (fun w1 (h : Below w5.heap.size w5 w1) => HRG.out _ 0 L.length w1 (hs5.below h (Nat.le_refl _)) (ht5.below h))
    have HIF := Lib.hid (show ¬ ¬ ((0 : Int) ≤ 0 ∧ (0 : Int) ≤ (L.length : Int) ∧ (L.length : Int) ≤ (L.length : Int)) by omega)
    clear hx1 hx2 hs5 ht5 HRG
    go_wp2_with fail
    refine HE1.out.mono ?_
    rintro e w6 ⟨rfl, rfl⟩
    go_wp2_with fail
    refine HE2.out.mono ?_
    rintro e w6 ⟨rfl, rfl⟩
    go_wp2_with fail
    refine (HCN.out _).mono ?_
    rintro e w6 ⟨rfl, hb6⟩
    go_wp2_with fail
    refine (HRG2.out _ hb6).mono ?_
    rintro e w7 ⟨o2, rfl, ho2, hb7⟩
    have hb7 := hb5.trans ((below_trans2 hb6 hb7).mono hb5.size)
    rw [if_pos ⟨by omega, by omega, by omega⟩, outs_none (.inr (by omega))] at ho2
    obtain ⟨o2a, o2c, rfl, _, _⟩ := ho2.shape
    simp only [partsI, List.map_nil, List.length_nil] at ho2 ⊢
    go_wp2
    go_ret
    exact ⟨rfl, hb7⟩

end Go.Proofs.YtkabinicmdcbpaaDoor
