
/- The walks of texts.Text and of the reference's Text. -/
import Derived.Test.YtgfkejecigefbaaDoorTextA
import Derived.Deep.Cut
namespace Go.Proofs.YtgfkejecigefbaaDoor
open Go.RowKit
set_option linter.unusedVariables false

theorem ret_two {x : Value} {c1 c2 : Int} (h : c1 = c2) : Ending.returned (.tuple #[x, .int .i64 c1]) = .returned (.tuple #[x, .int .i64 c2]) := by rw [h]

theorem info8t : (Tryd.prog.info? 5).map (fun i => (i.zero, i.size, i.bytes)) = some (some (.int .u8 0), 1, 1) := by kernel_rfl

theorem textI_len (tag : Int) (pss : List (List Int)) (h : ∀ p ∈ pss, p.length ≤ 65535) : (textI tag pss).length ≤ 65537 * pss.length + 1 := by
  have := flat_len pss h
  simp only [textI, List.length_cons]; omega

set_option maxHeartbeats 1000000 in
theorem text_any (tag : Int) (v : Value) (pss : List (List Int)) (w : World) (hpl : pss.length ≤ 1000000) (h1 : -9223372036854775808 ≤ tag) (h2 : tag ≤ 9223372036854775807) (h : Sls w v pss) :
    Calls Tryd.prog 93 #[.int .i64 tag, v] w fun e w' => ∃ x, e = .returned (.tuple #[x, .int .i64 (codeT tag pss)]) ∧ Sl w' x ((contT tag pss).map (Value.int .u8)) ∧ Below w.heap.size w w' := by
  obtain ⟨a, cap, rfl, hc, hm⟩ := h.shape
  by_cases ht : tag < 0 ∨ 255 < tag
  · have hcode : codeT tag pss = 1 := by unfold codeT; rw [if_pos ht]
    have hcont : contT tag pss = [] := by unfold contT; rw [if_pos ht]
    rw [hcode, hcont]
    have hI : ¬ tag = tag % 256 := by omega
    clear hcode hcont hpl
    go_enter Tryd.func93, Tryd.ntmps93
    go_wp2
    go_ret2
    exact ⟨_, rfl, Sl.nil w, Below.refl _ _⟩
  · have hI : tag = tag % 256 := by omega
    have htg : 0 ≤ tag ∧ tag ≤ 255 := by omega
    by_cases hl : ∃ p ∈ pss, 65535 < p.length
    · have hcode : codeT tag pss = 4 := by unfold codeT; rw [if_neg ht, if_pos hl]
      have hcont : contT tag pss = [] := by unfold contT; rw [if_neg ht, if_pos hl]
      rw [hcode, hcont]
      have hcl := Lib.hid (containsLong_any (.slice a pss.length cap) pss w h)
      rw [show decide (∃ p ∈ pss, 65535 < p.length) = true by simpa using hl] at hcl
      have HI := Lib.hid hI
      clear hcode hcont hpl hl hI ht
      go_enter Tryd.func93, Tryd.ntmps93
      go_wp2_with fail
      refine hcl.out.mono ?_
      rintro e w1 ⟨rfl, rfl⟩
      go_wp2
      go_ret2
      exact ⟨_, rfl, Sl.nil _, Below.refl _ _⟩
    · have hcode : codeT tag pss = 0 := by unfold codeT; rw [if_neg ht, if_neg hl]
      have hcont : contT tag pss = textI tag pss := by unfold contT; rw [if_neg ht, if_neg hl]
      rw [hcode, hcont]
      have hcl := Lib.hid (containsLong_any (.slice a pss.length cap) pss w h)
      rw [show decide (∃ p ∈ pss, 65535 < p.length) = false by simpa using hl] at hcl
      have hshort : ∀ p ∈ pss, p.length ≤ 65535 := fun p hp => by
        rcases Nat.lt_or_ge 65535 p.length with h | h
        · exact absurd ⟨p, hp, h⟩ hl
        · exact h
      have HI := Lib.hid hI
      have HPL := Lib.hid hpl
      obtain ⟨i0, hi, hz0, hz1, hz2⟩ := info_parts info8t
      have hone : ∀ xs : List Int, ∀ u ∈ xs.map (Value.int .u8), u.oneCell' = true := fun xs u hu => by obtain ⟨x, _, rfl⟩ := List.mem_map.1 hu; rfl
      have hown0 : (w.alloc (.cells #[.int .u8 tag] 5)).ownsRow w.heap.size 5 1 (.slice (some ⟨w.heap.size, 0, none⟩) 1 1) (textI tag (pss.take 0)).length ((textI tag (pss.take 0)).map (Value.int .u8)) :=
        World.ownsRow_lit (base := w.heap.size) (e := 5) (size := 1) w #[.int .u8 tag] 1 (Nat.le_refl _) (by simp [maxLen]) (by simp)
      have hb0 : Below w.heap.size w (w.alloc (.cells #[.int .u8 tag] 5)) := (Below.refl _ _).alloc (Nat.le_refl _) _
      clear hcode hcont hpl hl hI ht
      go_enter Tryd.func93, Tryd.ntmps93
      go_wp2_with fail
      refine hcl.out.mono ?_
      rintro e w1 ⟨rfl, rfl⟩
      go_wp2
      generalize (w.alloc (.cells #[.int .u8 tag] 5)) = w1 at *
      go_loopw [7, 24] (fun v i wr => ∃ k : Nat, k ≤ pss.length ∧ i = .int .i64 k ∧ wr.ownsRow w.heap.size 5 1 v (textI tag (pss.take k)).length ((textI tag (pss.take k)).map (Value.int .u8)) ∧ Below w.heap.size w wr) (fun _ i _ => pss.length - (intOf i).toNat)
      case atStart => exact ⟨0, by omega, rfl, hown0, hb0⟩
      case round =>
        clear hown0 hb0
        obtain ⟨k, hk, rfl, hown, hbr⟩ := hrel
        have hsz := hbr.size
        by_cases hlt : k < pss.length
        · obtain ⟨b, off, rfl, hb, u, hu, hs⟩ := h.at hlt
          have hp : (pss.getD k []).length ≤ 65535 := hshort _ (by rw [List.getD_eq_getElem?_getD, List.getElem?_eq_getElem hlt]; exact List.getElem_mem hlt)
          have HSN := Lib.hid (textI_snoc tag pss k hlt)
          have hkI : (k : Int) < (pss.length : Int) := by omega
          have hLb := textI_len tag (pss.take k) (fun p hp => hshort p (List.mem_of_mem_take hp))
          rw [List.length_take] at hLb
          have hLb : (textI tag (pss.take k)).length ≤ 65537000001 := by have := HPL.out; omega
          have hu : wr.cell? ⟨b, off + k, none⟩ = some u := by rw [hbr.cell (p := ⟨b, off + k, none⟩) hb]; exact hu
          generalize pss.getD k [] = P at *
          generalize hT : textI tag (pss.take k) = T at *
          obtain ⟨a2, cap2, rfl, hc2, hm2⟩ := hs.shape
          rw [List.length_map] at *
          have hpI : (P.length : Int) ≤ 65535 := by omega
          have HT := Lib.hid hT
          have HLB := Lib.hid hLb
          have HPB := Lib.hid hp
          clear hT hLb hp
          go_wp2_with (at_builtin; refine wpList_append_sl rfl _ _ 26 rfl w.heap.size 5 i0 (.int .u8 0) 1 Tryd.underlying26 hi hz0 hz1 hz2 rfl _ _ _ rfl (hown.alloc _) (.slice (some ⟨wr.heap.size, 0, none⟩) 2 2) ([(P.length : Int) / 256, (P.length : Int) % 256].map (Value.int .u8)) rfl (Sl.litL wr ([(P.length : Int) / 256, (P.length : Int) % 256].map (Value.int .u8)) _ (by simp [maxLen])) (hone _) (by have := HLB.out; simp only [List.length_map, List.length_cons, List.length_nil]; unfold maxLen; omega) (by have := HLB.out; simp only [List.length_map, List.length_cons, List.length_nil]; omega) (by simp; omega) ?_)
          intro v3 w6 hown3 hg6
          have hb6 := below_append hbr hown (Nat.le_refl _) hsz hg6
          have hs6 := hs.below hb6 (Nat.le_refl _)
          have hsz6 := hb6.size
          clear hg6 hown hu hbr hsz
          go_wp2_with (at_builtin; refine wpList_append_sl rfl _ _ 26 rfl w.heap.size 5 i0 (.int .u8 0) 1 Tryd.underlying26 hi hz0 hz1 hz2 rfl _ _ _ rfl hown3 (.slice a2 P.length cap2) (P.map (Value.int .u8)) rfl hs6 (hone _) (by have := HLB.out; have := HPB.out; simp only [List.length_map]; unfold maxLen; omega) (by have := HLB.out; have := HPB.out; simp only [List.length_map]; omega) hsz6 ?_)
          intro v4 w7 hown4 hg7
          have hb7 := below_grown hb6 hown3 (Nat.le_refl _) hsz6 hg7
          clear hg7 hown3 hb6 hs6
          go_wp2
          go_roundw
          case rel =>
            refine ⟨k + 1, by omega, by go_num, ?_, hb7⟩
            have e2 : (P.length : Int) / 256 % 256 = (P.length : Int) / 256 := by omega
            rw [HSN.out, e2]
            rw [show (T ++ [(P.length : Int) / 256, (P.length : Int) % 256] ++ P).length = T.length + 2 + P.length by simp; omega]
            simpa using hown4
          case measure => simp [intOf]; omega
        · have hkI : ¬ (k : Int) < (pss.length : Int) := by omega
          rw [List.take_of_length_le (by omega)] at hown
          go_wp2
          go_ret2
          exact ⟨_, rfl, Sl.of_owns hown, hbr⟩

theorem long_first (pss : List (List Int)) (k : Nat) (hk : k < pss.length) (h : 65535 < (pss.getD k []).length) : ∃ p ∈ pss, 65535 < p.length :=
  ⟨pss[k], List.getElem_mem hk, by rwa [List.getD_eq_getElem?_getD, List.getElem?_eq_getElem hk] at h⟩
theorem long_none (pss : List (List Int)) (h : ∀ j, j < pss.length → (pss.getD j []).length ≤ 65535) : ¬ ∃ p ∈ pss, 65535 < p.length := fun ⟨p, hp, hl⟩ => by
  obtain ⟨j, hj, rfl⟩ := List.mem_iff_getElem.1 hp
  have := h j hj
  rw [List.getD_eq_getElem?_getD, List.getElem?_eq_getElem hj] at this
  exact absurd hl (Nat.not_lt.2 this)
theorem textI_take_len (tag : Int) (pss : List (List Int)) (k : Nat) (hk : k ≤ pss.length) (h : ∀ j, j < k → (pss.getD j []).length ≤ 65535) : (textI tag (pss.take k)).length ≤ 65537 * k + 1 := by
  have := textI_len tag (pss.take k) (fun p hp => by
    obtain ⟨j, hj, rfl⟩ := List.mem_iff_getElem.1 hp
    rw [List.length_take] at hj
    have h1 := h j (by omega)
    rw [List.getD_eq_getElem?_getD, List.getElem?_eq_getElem (by omega)] at h1
    simpa using h1)
  rw [List.length_take] at this
  have e : min k pss.length = k := by omega
  rwa [e] at this

set_option maxHeartbeats 1000000 in
theorem refText_any (tag : Int) (v : Value) (pss : List (List Int)) (w : World) (hpl : pss.length ≤ 1000000) (h1 : -9223372036854775808 ≤ tag) (h2 : tag ≤ 9223372036854775807) (h : Sls w v pss) :
    Calls Tryd.prog 103 #[.int .i64 tag, v] w fun e w' => ∃ x, e = .returned (.tuple #[x, .int .i64 (codeT tag pss)]) ∧ Sl w' x ((contT tag pss).map (Value.int .u8)) ∧ Below w.heap.size w w' := by
  obtain ⟨a, cap, rfl, hc, hm⟩ := h.shape
  by_cases ht : tag < 0 ∨ 255 < tag
  · have hcode : codeT tag pss = 1 := by unfold codeT; rw [if_pos ht]
    have hcont : contT tag pss = [] := by unfold contT; rw [if_pos ht]
    rw [hcode, hcont]
    clear hcode hcont hpl
    rcases ht with ht | ht
    · go_enter Tryd.func103, Tryd.ntmps103
      go_wp2
      go_ret2
      exact ⟨_, rfl, Sl.nil w, Below.refl _ _⟩
    · have hI : ¬ tag < 0 := by omega
      go_enter Tryd.func103, Tryd.ntmps103
      go_wp2
      go_ret2
      exact ⟨_, rfl, Sl.nil w, Below.refl _ _⟩
  · have hI : ¬ tag < 0 := by omega
    have hJ : ¬ 255 < tag := by omega
    have HNT := Lib.hid ht
    have HPL := Lib.hid hpl
    obtain ⟨i0, hi, hz0, hz1, hz2⟩ := info_parts info8t
    have hone : ∀ xs : List Int, ∀ u ∈ xs.map (Value.int .u8), u.oneCell' = true := fun xs u hu => by obtain ⟨x, _, rfl⟩ := List.mem_map.1 hu; rfl
    have hown0 : (w.alloc (.cells #[.int .u8 tag] 5)).ownsRow w.heap.size 5 1 (.slice (some ⟨w.heap.size, 0, none⟩) 1 1) (textI tag (pss.take 0)).length ((textI tag (pss.take 0)).map (Value.int .u8)) :=
      World.ownsRow_lit (base := w.heap.size) (e := 5) (size := 1) w #[.int .u8 tag] 1 (Nat.le_refl _) (by simp [maxLen]) (by simp)
    have hb0 : Below w.heap.size w (w.alloc (.cells #[.int .u8 tag] 5)) := (Below.refl _ _).alloc (Nat.le_refl _) _
    clear hpl ht
    go_enter Tryd.func103, Tryd.ntmps103
    go_wp2
    generalize (w.alloc (.cells #[.int .u8 tag] 5)) = w1 at *
    clear hI hJ
    go_loopw [6, 20] (fun v i wr => ∃ k : Nat, k ≤ pss.length ∧ i = .int .i64 k ∧ Hid (∀ j, j < k → (pss.getD j []).length ≤ 65535) ∧ wr.ownsRow w.heap.size 5 1 v (textI tag (pss.take k)).length ((textI tag (pss.take k)).map (Value.int .u8)) ∧ Below w.heap.size w wr) (fun _ i _ => pss.length - (intOf i).toNat)
    case atStart => exact ⟨0, by omega, rfl, fun j hj => absurd hj (by omega), hown0, hb0⟩
    case round =>
      clear hown0 hb0
      obtain ⟨k, hk, rfl, hall, hown, hbr⟩ := hrel
      have hsz := hbr.size
      by_cases hlt : k < pss.length
      · obtain ⟨b, off, rfl, hb, u, hu, hs⟩ := h.at hlt
        have HSN := Lib.hid (textI_snoc tag pss k hlt)
        have hkI : (k : Int) < (pss.length : Int) := by omega
        have hLb := textI_take_len tag pss k hk hall.out
        have hLb : (textI tag (pss.take k)).length ≤ 65537000001 := by have := HPL.out; omega
        have hu : wr.cell? ⟨b, off + k, none⟩ = some u := by rw [hbr.cell (p := ⟨b, off + k, none⟩) hb]; exact hu
        obtain ⟨a2, cap2, rfl, hc2, hm2⟩ := hs.shape
        rw [List.length_map] at *
        by_cases hpl : 65535 < (pss.getD k []).length
        · have hex := long_first pss k hlt hpl
          have hcode : codeT tag pss = 4 := by unfold codeT; rw [if_neg HNT.out, if_pos hex]
          have hcont : contT tag pss = [] := by unfold contT; rw [if_neg HNT.out, if_pos hex]
          have HC := Lib.hid (And.intro hcode hcont)
          have hpI : (65535 : Int) < ((pss.getD k []).length : Int) := by omega
          generalize pss.getD k [] = P at *
          clear hcode hcont hpl hex hown hLb hs
          go_wp2
          go_ret2
          exact ⟨_, ret_two HC.out.1.symm, by rw [HC.out.2]; exact Sl.nil _, hbr⟩
        · have hall2 : Hid (∀ j, j < k + 1 → (pss.getD j []).length ≤ 65535) := Lib.hid fun j hj => by
            rcases Nat.lt_or_ge j k with h | h
            · exact hall.out j h
            · obtain rfl : j = k := by omega
              omega
          have hp : (pss.getD k []).length ≤ 65535 := by omega
          have hpI : ¬ (65535 : Int) < ((pss.getD k []).length : Int) := by omega
          have hpJ : ((pss.getD k []).length : Int) ≤ 65535 := by omega
          obtain ⟨P, hP⟩ : ∃ P, P = pss.getD k [] := ⟨_, rfl⟩
          rw [← hP] at HSN hs hc2 hpI hpJ hp
          try rw [← hP]
          try rw [← hP] at hu
          obtain ⟨T, hT⟩ : ∃ T, T = textI tag (pss.take k) := ⟨_, rfl⟩
          rw [← hT] at HSN hown hLb
          have HLB := Lib.hid hLb
          have HPB := Lib.hid hp
          have HPT := Lib.hid (And.intro hP hT)
          clear hLb hp hP hT hpl
          go_wp2_with (at_builtin; refine wpList_append_sl rfl _ _ 26 rfl w.heap.size 5 i0 (.int .u8 0) 1 Tryd.underlying26 hi hz0 hz1 hz2 rfl _ _ _ rfl (hown.alloc _) (.slice (some ⟨wr.heap.size, 0, none⟩) 2 2) ([(P.length : Int) / 256, (P.length : Int) % 256].map (Value.int .u8)) rfl (Sl.litL wr ([(P.length : Int) / 256, (P.length : Int) % 256].map (Value.int .u8)) _ (by simp [maxLen])) (hone _) (by have := HLB.out; simp only [List.length_map, List.length_cons, List.length_nil]; unfold maxLen; omega) (by have := HLB.out; simp only [List.length_map, List.length_cons, List.length_nil]; omega) (by simp; omega) ?_)
          intro v3 w6 hown3 hg6
          have hb6 := below_append hbr hown (Nat.le_refl _) hsz hg6
          have hs6 := hs.below hb6 (Nat.le_refl _)
          have hsz6 := hb6.size
          clear hg6 hown hu hbr hsz
          go_wp2_with (at_builtin; refine wpList_append_sl rfl _ _ 26 rfl w.heap.size 5 i0 (.int .u8 0) 1 Tryd.underlying26 hi hz0 hz1 hz2 rfl _ _ _ rfl hown3 (.slice a2 P.length cap2) (P.map (Value.int .u8)) rfl hs6 (hone _) (by have := HLB.out; have := HPB.out; simp only [List.length_map]; unfold maxLen; omega) (by have := HLB.out; have := HPB.out; simp only [List.length_map]; omega) hsz6 ?_)
          intro v4 w7 hown4 hg7
          have hb7 := below_grown hb6 hown3 (Nat.le_refl _) hsz6 hg7
          clear hg7 hown3 hb6 hs6
          go_wp2
          go_roundw
          case rel =>
            refine ⟨k + 1, by omega, by go_num, hall2, ?_, hb7⟩
            have e2 : (P.length : Int) / 256 % 256 = (P.length : Int) / 256 := by omega
            rw [HSN.out, e2]
            rw [show (T ++ [(P.length : Int) / 256, (P.length : Int) % 256] ++ P).length = T.length + 2 + P.length by simp; omega]
            simpa using hown4
          case measure => simp [intOf]; omega
      · have hkI : ¬ (k : Int) < (pss.length : Int) := by omega
        have hno := long_none pss (fun j hj => hall.out j (by omega))
        have hcode : codeT tag pss = 0 := by unfold codeT; rw [if_neg HNT.out, if_neg hno]
        have hcont : contT tag pss = textI tag pss := by unfold contT; rw [if_neg HNT.out, if_neg hno]
        have HC := Lib.hid (And.intro hcode hcont)
        rw [List.take_of_length_le (by omega)] at hown
        clear hcode hcont hno
        go_wp2
        go_ret2
        exact ⟨_, ret_two HC.out.1.symm, by rw [HC.out.2]; exact Sl.of_owns hown, hbr⟩

end Go.Proofs.YtgfkejecigefbaaDoor
