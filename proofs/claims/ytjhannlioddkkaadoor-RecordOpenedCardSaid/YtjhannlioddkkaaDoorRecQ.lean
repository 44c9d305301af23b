
/- Plain laws: bytes that are read without an error are those that are written. Conditions: none. -/
import Derived.Test.YtjhannlioddkkaaDoorRecP
namespace Go.Proofs.YtjhannlioddkkaaDoor
open Go.RowKit
set_option linter.unusedVariables false

theorem dig_snoc0 (q : Nat) (x : Int) (hx : 0 ≤ x ∧ x ≤ 255) : dig ((q : Int) * 256 + x).toNat 0 = x := by
  unfold dig
  rw [Nat.pow_zero, Nat.div_one]; omega
theorem dig_snoc (q i : Nat) (x : Int) (hx : 0 ≤ x ∧ x ≤ 255) : dig ((q : Int) * 256 + x).toNat (i + 1) = dig q i := by
  unfold dig
  have e : ((q : Int) * 256 + x).toNat / 256 = q := by omega
  rw [Nat.pow_succ, Nat.mul_comm, ← Nat.div_div_eq_div_mul, e]

theorem beI_beN : ∀ (k : Nat) (L : List Int), L.length = k → IsB L → beI (beN L).toNat k k = L
  | 0, L, h, _ => by obtain rfl := List.length_eq_zero_iff.1 h; rfl
  | k + 1, L, h, hB => by
    have hl : L ≠ [] := by rintro rfl; simp at h
    obtain ⟨M, x, rfl⟩ : ∃ M x, L = M ++ [x] := ⟨L.dropLast, L.getLast hl, (List.dropLast_concat_getLast hl).symm⟩
    have hM : M.length = k := by simpa using h
    have hBM : IsB M := fun y hy => hB y (by simp [hy])
    have hx := hB x (by simp)
    obtain ⟨q, hq⟩ : ∃ q : Nat, beN M = q := ⟨(beN M).toNat, by have := (beN_pos M hBM).1; omega⟩
    have ih := beI_beN k M hM hBM
    rw [hq, Int.toNat_natCast] at ih
    rw [beN_snoc, hq]
    unfold beI at ih ⊢
    rw [List.range_succ, List.map_append, List.map_cons, List.map_nil]
    have e1 : k + 1 - 1 - k = 0 := by omega
    rw [e1, dig_snoc0 q x hx]
    congr 1
    have : ∀ t ∈ List.range k, dig ((q : Int) * 256 + x).toNat (k + 1 - 1 - t) = dig q (k - 1 - t) := fun t ht => by
      have ht : t < k := List.mem_range.1 ht
      rw [show k + 1 - 1 - t = (k - 1 - t) + 1 by omega, dig_snoc q _ x hx]
    rw [List.map_congr_left this, ih]

theorem beN_lead (L : List Int) (hB : IsB L) (hp : 0 < L.length) (h0 : ¬ L.getD 0 0 = 0) : (256 : Int) ^ (L.length - 1) ≤ beN L := by
  induction hn : L.length generalizing L with
  | zero => omega
  | succ n ih =>
    have hl : L ≠ [] := by rintro rfl; simp at hn
    obtain ⟨M, x, rfl⟩ : ∃ M x, L = M ++ [x] := ⟨L.dropLast, L.getLast hl, (List.dropLast_concat_getLast hl).symm⟩
    have hM : M.length = n := by simpa using hn
    have hBM : IsB M := fun y hy => hB y (by simp [hy])
    have hx := hB x (by simp)
    rw [beN_snoc]
    by_cases hn0 : n = 0
    · subst hn0
      obtain rfl := List.length_eq_zero_iff.1 hM
      simp at h0
      simp [beN]; omega
    · have := ih M hBM (by omega) (by
        rw [List.getD_eq_getElem?_getD, List.getElem?_append_left (by omega)] at h0
        rw [List.getD_eq_getElem?_getD]; exact h0) hM
      have e : (256 : Int) ^ (n + 1 - 1) = 256 ^ (n - 1) * 256 := by rw [← Int.pow_succ]; congr 1; omega
      rw [e]; omega

/-- A number that is read without an error is spelt as it would be written. -/
theorem uI_canon (most : Int) (bs : List Int) (hB : IsB bs) (h : (uI most bs 0).2.2 = 0) : bs = uintN (uI most bs 0).1.toNat ++ (uI most bs 0).2.1 := by
  cases bs with
  | nil => rw [uI_nil] at h; simp at h
  | cons hd r =>
    have hh := hB hd (by simp)
    by_cases h8 : 8 < hd
    · rw [uI_wide most hd r h8] at h; simp at h
    · by_cases hs : r.length < hd.toNat
      · rw [uI_short most hd r h8 hs] at h; simp at h
      · by_cases hf : (0 < hd.toNat ∧ r.getD 0 0 = 0) ∨ 4611686018427387904 < beN (r.take hd.toNat)
        · rw [uI_form most hd r h8 hs hf] at h; simp at h
        · by_cases hm : most < beN (r.take hd.toNat)
          · rw [uI_full most hd r h8 hs hf hm] at h; simp at h
          · rw [uI_ok most hd r h8 hs hf hm]
            simp only
            obtain ⟨k, rfl⟩ : ∃ k : Nat, hd = k := ⟨hd.toNat, by omega⟩
            rw [Int.toNat_natCast] at *
            have hL : (r.take k).length = k := by rw [List.length_take]; omega
            have hBL : IsB (r.take k) := fun x hx => hB x (by simp [List.mem_of_mem_take hx])
            have hp := beN_pos (r.take k) hBL
            obtain ⟨m, hm2⟩ : ∃ m : Nat, beN (r.take k) = m := ⟨(beN (r.take k)).toNat, by omega⟩
            have hlt : m < 256 ^ k := by
              have := hp.2
              rw [hm2, hL] at this
              have e : ((256 : Int) ^ k) = ((256 ^ k : Nat) : Int) := by simp
              rw [e] at this
              omega
            have hle : m ≤ 4611686018427387904 := by
              have : ¬ 4611686018427387904 < beN (r.take k) := fun q => hf (.inr q)
              omega
            have hw : width m = k := width_of k m hlt (by
              by_cases hk0 : k = 0
              · exact .inl hk0
              · right
                have h0 : ¬ (r.take k).getD 0 0 = 0 := fun q => hf (.inl ⟨by omega, by
                  rw [List.getD_eq_getElem?_getD, List.getElem?_take, if_pos (by omega), ← List.getD_eq_getElem?_getD] at q
                  exact q⟩)
                have := beN_lead (r.take k) hBL (by omega) h0
                rw [hm2, hL] at this
                have e : ((256 : Int) ^ (k - 1)) = ((256 ^ (k - 1) : Nat) : Int) := by simp
                rw [e] at this
                omega) (Nat.lt_of_le_of_lt hle (by decide))
            have hbe := beI_beN k (r.take k) hL hBL
            rw [hm2, Int.toNat_natCast] at hbe
            rw [hm2, Int.toNat_natCast]
            unfold uintN
            rw [hw, hbe, List.cons_append, List.take_append_drop]

theorem bI_canon (most : Int) (bs : List Int) (hB : IsB bs) (h : (bI most bs 0).2.2 = 0) : bs = bytesI (bI most bs 0).1 ++ (bI most bs 0).2.1 := by
  by_cases hu : (uI most bs 0).2.2 = 0
  · by_cases hl : (uI most bs 0).2.1.length < (uI most bs 0).1.toNat
    · rw [bI_short most bs 0 hu hl] at h; simp at h
    · rw [bI_ok most bs 0 hu hl]
      have hc := uI_canon most bs hB hu
      simp only
      unfold bytesI
      have e : ((uI most bs 0).2.1.take (uI most bs 0).1.toNat).length = (uI most bs 0).1.toNat := by rw [List.length_take]; omega
      rw [e, List.append_assoc, List.take_append_drop]
      exact hc
  · rw [bI_err most bs 0 hu] at h; exact absurd h hu

theorem uI_sticks (most : Int) (bs : List Int) (e : Int) (h : (uI most bs e).2.2 = 0) : e = 0 := by
  by_cases he : e = 0
  · exact he
  · rw [uI_err most bs e he] at h; exact h
theorem bI_sticks (most : Int) (bs : List Int) (e : Int) (h : (bI most bs e).2.2 = 0) : e = 0 := by
  by_cases hu : (uI most bs e).2.2 = 0
  · exact uI_sticks most bs e hu
  · rw [bI_err most bs e hu] at h; exact absurd h hu

theorem lk_canon (m : Int) (bs : List Int) (e : Int) (hB : IsB bs) : ∀ k, (lkN m k ([], bs, e)).2.2 = 0 → e = 0 ∧ bs = (lkN m k ([], bs, e)).1.flatMap bytesI ++ (lkN m k ([], bs, e)).2.1
  | 0, h => ⟨h, by simp [lkN]⟩
  | k + 1, h => by
    have h' : (bI m (lkN m k ([], bs, e)).2.1 (lkN m k ([], bs, e)).2.2).2.2 = 0 := h
    have hk := bI_sticks _ _ _ h'
    obtain ⟨he, ih⟩ := lk_canon m bs e hB k hk
    refine ⟨he, ?_⟩
    rw [hk] at h'
    have hc := bI_canon m _ (lkN_isB m k ([], bs, e) (by intro p hp; cases hp) hB).2 h'
    show bs = ((lkN m k ([], bs, e)).1 ++ [(bI m (lkN m k ([], bs, e)).2.1 (lkN m k ([], bs, e)).2.2).1]).flatMap bytesI ++ (bI m (lkN m k ([], bs, e)).2.1 (lkN m k ([], bs, e)).2.2).2.1
    rw [hk, List.flatMap_append, List.flatMap_cons, List.flatMap_nil, List.append_nil, List.append_assoc, ← hc]
    exact ih

/-- Bytes that are read whole are those of what was read. -/
theorem dec_canon (m : Int) (b : List Int) (hB : IsB b) (h : (d6 m b).2.2 = 0) (hr : (d6 m b).2.1 = []) : b = encI (d1 b).1 (d2 b).1 (d3 m b).1 (d4 m b).1 (d5 m b).1 (d6 m b).1 := by
  obtain ⟨l1, l2, l3, l4, l5, _⟩ := d_left m b
  obtain ⟨h5, c6⟩ := lk_canon m (d5 m b).2.1 (d5 m b).2.2 (suf_isB l5 hB) (linksI (d1 b).1) h
  have c6 : (d5 m b).2.1 = (d6 m b).1.flatMap bytesI ++ (d6 m b).2.1 := c6
  rw [hr, List.append_nil] at c6
  have h4 : (d4 m b).2.2 = 0 := bI_sticks _ _ _ h5
  have h3 : (d3 m b).2.2 = 0 := uI_sticks _ _ _ h4
  have h2 : (d2 b).2.2 = 0 := bI_sticks _ _ _ h3
  have h1 : (d1 b).2.2 = 0 := uI_sticks _ _ _ h2
  have c5 : (d4 m b).2.1 = bytesI (d5 m b).1 ++ (d5 m b).2.1 := by
    have e : d5 m b = bI m (d4 m b).2.1 0 := by unfold d5; rw [h4]
    rw [e]; exact bI_canon m _ (suf_isB l4 hB) (by rw [← e]; exact h5)
  have c4 : (d3 m b).2.1 = uintN (d4 m b).1.toNat ++ (d4 m b).2.1 := by
    have e : d4 m b = uI 32 (d3 m b).2.1 0 := by unfold d4; rw [h3]
    rw [e]; exact uI_canon 32 _ (suf_isB l3 hB) (by rw [← e]; exact h4)
  have c3 : (d2 b).2.1 = bytesI (d3 m b).1 ++ (d3 m b).2.1 := by
    have e : d3 m b = bI m (d2 b).2.1 0 := by unfold d3; rw [h2]
    rw [e]; exact bI_canon m _ (suf_isB l2 hB) (by rw [← e]; exact h3)
  have c2 : (d1 b).2.1 = uintN (d2 b).1.toNat ++ (d2 b).2.1 := by
    have e : d2 b = uI 1125899906842624 (d1 b).2.1 0 := by unfold d2; rw [h1]
    rw [e]; exact uI_canon 1125899906842624 _ (suf_isB l1 hB) (by rw [← e]; exact h2)
  have c1 : b = uintN (d1 b).1.toNat ++ (d1 b).2.1 := uI_canon 255 b hB h1
  unfold encI
  rw [← c6, ← c5, ← c4, ← c3, ← c2, ← c1]

/-- What the reference takes for a record is what the program takes for one, and reads the same. -/
def refOk (size : Int) (b : List Int) : Prop := (d6 32 b).2.2 = 0 ∧ (d6 32 b).2.1 = [] ∧ canI size (d1 b).1 (d2 b).1 (d3 32 b).1 (d4 32 b).1 (d5 32 b).1 (d6 32 b).1
instance (size : Int) (b : List Int) : Decidable (refOk size b) := by unfold refOk; infer_instance
theorem ok_ref (size : Int) (b : List Int) (h : decOk size b) : refOk size b ∧ (d3 32 b).1 = (d3 size b).1 ∧ (d4 32 b).1 = (d4 size b).1 ∧ (d5 32 b).1 = (d5 size b).1 ∧ (d6 32 b).1 = (d6 size b).1 := by
  obtain ⟨h1, h2, h3, h4⟩ := h
  have k := dec_enc 32 (by have := h3.1; omega) h3
  rw [h4] at k
  obtain ⟨k1, k2, k3, k4, k5, k6⟩ := k
  refine ⟨⟨by rw [k6], by rw [k6], ?_⟩, k3, k4, k5, by rw [k6]⟩
  rw [k3, k4, k5, k6]
  exact h3
theorem ref_ok (size : Int) (b : List Int) (hB : IsB b) (h : refOk size b) : decOk size b := by
  obtain ⟨h1, h2, h3⟩ := h
  have hc := dec_canon 32 b hB h1 h2
  have k := dec_enc size (Int.le_refl _) h3
  rw [← hc] at k
  obtain ⟨k1, k2, k3, k4, k5, k6⟩ := k
  refine ⟨by rw [k6], by rw [k6], ?_, ?_⟩
  · rw [k3, k4, k5, k6]; exact h3
  · rw [k3, k4, k5, k6]; exact hc.symm

end Go.Proofs.YtjhannlioddkkaaDoor
