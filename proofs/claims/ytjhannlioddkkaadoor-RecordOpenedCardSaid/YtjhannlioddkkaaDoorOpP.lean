
/- Plain laws of signed records: what was sealed is read back; bytes that are a signature are those that it is written as. Conditions: none. -/
import Derived.Test.YtjhannlioddkkaaDoorSig2
import Derived.Test.YtjhannlioddkkaaDoorMrdA
import Derived.Test.YtjhannlioddkkaaDoorRecQ
namespace Go.Proofs.YtjhannlioddkkaaDoor
open Go.RowKit
set_option linter.unusedVariables false

/-- A number that is too great is told. -/
theorem uintN_over (m : Nat) (hm : m ≤ 4611686018427387904) (most : Int) (h : most < (m : Int)) (rest : List Int) : (uI most (uintN m ++ rest) 0).2.2 = 4 := by
  have h0 := uintN_read m hm (m : Int) (Int.le_refl _) rest
  have e0 : uintN m ++ rest = (width m : Int) :: (beI m (width m) (width m) ++ rest) := rfl
  obtain ⟨h8, hlt, hge⟩ := width_spec m hm
  have hL : (beI m (width m) (width m)).length = width m := beI_len _ _ _
  have ht : (beI m (width m) (width m) ++ rest).take (width m : Int).toNat = beI m (width m) (width m) := by
    rw [Int.toNat_natCast]; exact List.take_left' hL
  have hb : beN (beI m (width m) (width m)) = m := by
    rw [beN_beI m _ hlt _ (Nat.le_refl _), Nat.sub_self]; simp
  have hf : ¬ ((0 < (width m : Int).toNat ∧ (beI m (width m) (width m) ++ rest).getD 0 0 = 0) ∨ 4611686018427387904 < beN ((beI m (width m) (width m) ++ rest).take (width m : Int).toNat)) := by
    intro hf
    rw [e0] at h0
    have h1 := uI_form (m : Int) (width m : Int) (beI m (width m) (width m) ++ rest) (by omega) (by rw [Int.toNat_natCast, List.length_append, hL]; omega) hf
    rw [h1] at h0
    have h2 := congrArg (fun x => x.2.2) h0
    simp at h2
  rw [e0, uI_full most _ _ (by omega) (by rw [Int.toNat_natCast, List.length_append, hL]; omega) hf (by rw [ht, hb]; exact h)]

theorem chunksI_flat (z : Nat) (r : List Int) : ∀ n, z * n ≤ r.length → (chunksI z r 0 n).flatten = r.take (z * n)
  | 0, _ => by simp [chunksI]
  | n + 1, h => by
    have h' : z * n ≤ r.length := Nat.le_trans (Nat.mul_le_mul (Nat.le_refl z) (Nat.le_succ n)) h
    rw [chunksI_succ, Nat.zero_add, List.flatten_append, chunksI_flat z r n h', List.flatten_cons, List.flatten_nil, List.append_nil]
    unfold chunkI
    rw [Nat.mul_succ, List.take_add]

theorem flat_chunks (z : Nat) : ∀ (ps : List (List Int)) (more : List Int), (∀ p ∈ ps, p.length = z) → chunksI z (ps.flatten ++ more) 0 ps.length = ps
  | [], _, _ => rfl
  | p :: ps, more, h => by
    have hp := h p (by simp)
    unfold chunksI
    rw [List.length_cons, List.range_succ_eq_map, List.map_cons, List.map_map]
    have h0 : chunkI z ((p :: ps).flatten ++ more) (0 + 0) = p := by
      unfold chunkI
      rw [List.flatten_cons, List.append_assoc]
      simp only [Nat.add_zero, Nat.mul_zero, List.drop_zero]
      exact List.take_left' hp
    rw [h0]
    congr 1
    have ih := flat_chunks z ps more (fun q hq => h q (by simp [hq]))
    refine Eq.trans ?_ ih
    unfold chunksI
    refine List.map_congr_left fun i _ => ?_
    show chunkI z ((p :: ps).flatten ++ more) (0 + (i + 1)) = chunkI z (ps.flatten ++ more) (0 + i)
    unfold chunkI
    rw [List.flatten_cons, List.append_assoc, show z * (0 + (i + 1)) = p.length + z * (0 + i) by rw [hp, Nat.zero_add, Nat.zero_add, Nat.mul_succ]; omega, List.drop_append]
    simp [List.drop_eq_nil_of_le]

/-- A signature's bytes, read back. -/
theorem mr_back {size idx : Int} {parts path : List (List Int)} (hs : 1 ≤ size ∧ size ≤ 32) (h : wholeI size idx parts path) :
    (¬ idx ≤ 2 ^ path.length - 1 → ¬ mrC size path.length (uintN idx.toNat ++ (parts.flatten ++ path.flatten)) = 0) ∧
    (idx ≤ 2 ^ path.length - 1 → mrC size path.length (uintN idx.toNat ++ (parts.flatten ++ path.flatten)) = 0 ∧ (mrU path.length (uintN idx.toNat ++ (parts.flatten ++ path.flatten))).1 = idx ∧
      mrParts size (mrU path.length (uintN idx.toNat ++ (parts.flatten ++ path.flatten))).2.1 = parts ∧ mrPath size path.length (mrU path.length (uintN idx.toNat ++ (parts.flatten ++ path.flatten))).2.1 = path ∧
      ((mrU path.length (uintN idx.toNat ++ (parts.flatten ++ path.flatten))).2.1.drop (mrNeed size path.length)) = []) := by
  obtain ⟨⟨hi0, hi1⟩, hpl, hql, hp, hq⟩ := h
  obtain ⟨z, rfl⟩ : ∃ z : Nat, size = z := ⟨size.toNat, by omega⟩
  obtain ⟨i, rfl⟩ : ∃ i : Nat, idx = i := ⟨idx.toNat, by omega⟩
  have hpl' : parts.length = 4 * z + 5 := by rw [four_size hs] at hpl; omega
  have hp' : ∀ p ∈ parts, p.length = z := fun p h => by have := hp p h; omega
  have hq' : ∀ p ∈ path, p.length = z := fun p h => by have := hq p h; omega
  have hcan : mcanB (z : Int) (path.length : Int) = true := by unfold mcanB; exact decide_eq_true ⟨by omega, by omega, by omega, by omega⟩
  have hU : mrU path.length (uintN i ++ (parts.flatten ++ path.flatten)) = uI (2 ^ path.length - 1) (uintN i ++ (parts.flatten ++ path.flatten)) 0 := rfl
  have hC : mrC z path.length (uintN i ++ (parts.flatten ++ path.flatten)) = if (mrU path.length (uintN i ++ (parts.flatten ++ path.flatten))).2.2 ≠ 0 then (mrU path.length (uintN i ++ (parts.flatten ++ path.flatten))).2.2 else if (mrU path.length (uintN i ++ (parts.flatten ++ path.flatten))).2.1.length < mrNeed z path.length then 3 else 0 := by
    unfold mrC; rw [if_neg (by simp [hcan])]; simp
  rw [Int.toNat_natCast, hC]
  have hfl : (parts.flatten ++ path.flatten).length = mrNeed z path.length := by
    rw [List.length_append, flat_size z parts hp', flat_size z path hq', hpl', ← Nat.add_mul]
    unfold mrNeed
    rw [Int.toNat_natCast, Int.toNat_natCast, Nat.mul_comm]
  refine ⟨fun hn => ?_, fun hn => ?_⟩
  · have h4 : (mrU path.length (uintN i ++ (parts.flatten ++ path.flatten))).2.2 = 4 := by rw [hU]; exact uintN_over i (by omega) _ (by omega) _
    rw [h4, if_pos (by decide)]
    decide
  · have hr : mrU path.length (uintN i ++ (parts.flatten ++ path.flatten)) = ((i : Int), parts.flatten ++ path.flatten, 0) := by rw [hU]; exact uintN_read i (by omega) _ hn _
    rw [hr]
    refine ⟨by rw [if_neg (by simp), if_neg (by rw [hfl]; exact Nat.lt_irrefl _)], rfl, ?_, ?_, ?_⟩
    · unfold mrParts
      rw [Int.toNat_natCast, ← hpl']
      exact flat_chunks z parts _ hp'
    · unfold mrPath
      rw [Int.toNat_natCast, Int.toNat_natCast]
      have h2 := flat_chunks z path [] hq'
      rw [List.append_nil] at h2
      refine Eq.trans ?_ h2
      unfold chunksI
      refine List.map_congr_left fun j _ => ?_
      show chunkI z (parts.flatten ++ path.flatten) (4 * z + 5 + j) = chunkI z path.flatten (0 + j)
      unfold chunkI
      rw [Nat.mul_add z (4 * z + 5), ← List.drop_drop, Nat.zero_add]
      congr 2
      exact List.drop_left' (by rw [flat_size z parts hp', hpl', Nat.mul_comm])
    · exact List.drop_eq_nil_of_le (by rw [hfl]; exact Nat.le_refl _)

/-- Bytes that are a signature, with what is behind it. -/
theorem mr_canon {size height : Int} {bs : List Int} (hB : IsB bs) (h : mrC size height bs = 0) :
    bs = sigTo [] (mrU height.toNat bs).1 (mrParts size (mrU height.toNat bs).2.1) (mrPath size height (mrU height.toNat bs).2.1) 2 ++ (mrU height.toNat bs).2.1.drop (mrNeed size height) := by
  unfold mrC at h
  split at h
  · cases h
  · rename_i hcan
    split at h
    · rename_i he; exact absurd h he
    · rename_i he
      split at h
      · cases h
      · rename_i hl
        have he' : (mrU height.toNat bs).2.2 = 0 := by simpa using he
        have hc := uI_canon (2 ^ height.toNat - 1) bs hB he'
        have hc : bs = uintN (mrU height.toNat bs).1.toNat ++ (mrU height.toNat bs).2.1 := hc
        generalize hU : mrU height.toNat bs = U at *
        obtain ⟨idx, r, e⟩ := U
        simp only at hc hl ⊢
        have hN : mrNeed size height = size.toNat * (4 * size.toNat + 5) + size.toNat * height.toNat := by unfold mrNeed; rw [Nat.mul_add]
        have hl1 : size.toNat * (4 * size.toNat + 5) ≤ r.length := by omega
        unfold sigTo mrParts mrPath
        rw [List.nil_append, chunksI_flat _ r _ hl1]
        have e2 : (chunksI size.toNat r (4 * size.toNat + 5) height.toNat).flatten = (r.drop (size.toNat * (4 * size.toNat + 5))).take (size.toNat * height.toNat) := by
          rw [← chunksI_flat size.toNat (r.drop (size.toNat * (4 * size.toNat + 5))) height.toNat (by rw [List.length_drop]; omega)]
          congr 1
          unfold chunksI
          refine List.map_congr_left fun j _ => ?_
          unfold chunkI
          rw [List.drop_drop, Nat.mul_add, Nat.zero_add]
        rw [e2, hN]
        generalize size.toNat * (4 * size.toNat + 5) = A at *
        generalize size.toNat * height.toNat = D at *
        show bs = ((uintN idx.toNat ++ List.take A r) ++ List.take D (List.drop A r)) ++ List.drop (A + D) r
        rw [List.append_assoc, List.append_assoc]
        conv => lhs; rw [hc]
        congr 1
        rw [← List.drop_drop, List.take_append_drop, List.take_append_drop]

/-- A piece of bytes is bytes. -/
theorem chunksI_isB {z a n : Nat} {r : List Int} (h : IsB r) : ∀ p ∈ chunksI z r a n, IsB p := by
  intro p hp
  unfold chunksI at hp
  obtain ⟨i, _, rfl⟩ := List.mem_map.1 hp
  unfold chunkI
  exact (h.drop _).take _

end Go.Proofs.YtjhannlioddkkaaDoor
