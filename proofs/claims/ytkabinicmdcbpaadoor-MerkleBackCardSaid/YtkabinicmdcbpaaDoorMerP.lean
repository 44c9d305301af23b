/- Plain laws: what shows a range leads back to the root. -/
import Derived.Test.YtkabinicmdcbpaaDoorMerF
namespace Go.Proofs.YtkabinicmdcbpaaDoor
open Go.RowKit
set_option linter.unusedVariables false

/-- The digests of a part that a span has. -/
def ovl (l : List (List Int)) (f t : Int) (a : Nat) : Nat → List (List Int)
  | 0 => []
  | n + 1 => ovl l f t a n ++ (if f ≤ a + n ∧ (a : Int) + n < t then [l.getD (a + n) []] else [])

theorem ovl_add (l : List (List Int)) (f t : Int) (a k : Nat) : ∀ m, ovl l f t a (k + m) = ovl l f t a k ++ ovl l f t (a + k) m
  | 0 => by simp [ovl]
  | m + 1 => by
    rw [← Nat.add_assoc]
    simp only [ovl]
    rw [ovl_add l f t a k m, List.append_assoc, ← Nat.add_assoc]
    congr 3
    rw [show ((a : Int) + ((k + m : Nat) : Int)) = ((a + k : Nat) : Int) + (m : Int) by omega]

theorem ovl_none (l : List (List Int)) (f t : Int) (a : Nat) : ∀ n : Nat, ¬ (f < t ∧ f < (a : Int) + n ∧ (a : Int) < t) → ovl l f t a n = []
  | 0, _ => rfl
  | n + 1, h => by
    simp only [ovl]
    rw [ovl_none l f t a n (by omega), if_neg (by omega)]; rfl

theorem ovl_all (l : List (List Int)) (f t : Nat) (hft : f ≤ t) : ∀ n, n ≤ l.length → ovl l f t 0 n = ((l.take n).take t).drop f
  | 0, _ => by simp [ovl]
  | n + 1, h => by
    simp only [ovl]
    rw [ovl_all l f t hft n (by omega), List.take_succ_eq_append_getElem (by omega)]
    have hg : l.getD (0 + n) [] = l[n] := by rw [Nat.zero_add, List.getD_eq_getElem?_getD, List.getElem?_eq_getElem (by omega)]; rfl
    rw [hg]
    have hln : (l.take n).length = n := by rw [List.length_take]; omega
    generalize l.take n = A at *
    generalize l[n] = x at *
    by_cases h1 : n < t
    · have e1 : A.take t = A := List.take_of_length_le (by omega)
      have e2 : (A ++ [x]).take t = A ++ [x] := List.take_of_length_le (by rw [List.length_append, hln]; simp; omega)
      rw [e1, e2]
      by_cases h2 : f ≤ n
      · rw [if_pos (by omega), List.drop_append_of_le_length (by omega)]
      · rw [if_neg (by omega), List.drop_eq_nil_of_le (by omega), List.drop_eq_nil_of_le (by rw [List.length_append, hln]; simp; omega)]; rfl
    · rw [if_neg (by omega), List.append_nil, List.take_append_of_le_length (by omega)]

theorem outs_split {f t a : Int} {n : Nat} (h2 : 2 ≤ n) (h : f < t ∧ f < a + n ∧ a < t) : outs f t a n = outs f t a (half n) ++ outs f t (a + half n) (n - half n) := by
  have k1 := half_lt n h2
  have k2 := half_pos n
  by_cases hh : f ≤ a ∧ a + n ≤ t
  · rw [outs_none (.inr hh), outs_none (.inr (by omega)), outs_none (.inr (by omega))]; rfl
  · exact (outs_two (by omega) h).2

theorem partsI_append (size : Int) (l : List (List Int)) (d e : List (Int × Nat)) : partsI size l (d ++ e) = partsI size l d ++ partsI size l e := by unfold partsI; rw [List.map_append]

theorem fold_parts (size : Int) (l : List (List Int)) (f t : Int) : ∀ (m n : Nat), n ≤ m → 0 < n → ∀ (a : Nat) (ri ro : List (List Int)), a + n ≤ l.length →
    enough f t a n size (ovl l f t a n ++ ri) (partsI size l (outs f t a n) ++ ro) ∧ foldI size f t a n (ovl l f t a n ++ ri) (partsI size l (outs f t a n) ++ ro) = (rootI size ((l.drop a).take n), ri, ro) := by
  intro m
  induction m with
  | zero => intro n h1 h2; omega
  | succ m ih =>
    intro n hnm hn a ri ro hl
    by_cases h : f < t ∧ f < (a : Int) + n ∧ (a : Int) < t
    · by_cases h2 : 2 ≤ n
      · have k1 := half_lt n h2
        have k2 := half_pos n
        have hs : (a : Int) + (half n : Int) = ((a + half n : Nat) : Int) := by omega
        obtain ⟨e1, f1⟩ := ih (half n) (by omega) k2 a (ovl l f t (a + half n) (n - half n) ++ ri) (partsI size l (outs f t ((a + half n : Nat) : Int) (n - half n)) ++ ro) (by omega)
        obtain ⟨e2, f2⟩ := ih (n - half n) (by omega) (by omega) (a + half n) ri ro (by omega)
        have ho : ovl l f t a n = ovl l f t a (half n) ++ ovl l f t (a + half n) (n - half n) := by
          rw [← ovl_add, show half n + (n - half n) = n by omega]
        have hll : ((l.drop a).take n).length = n := by rw [List.length_take, List.length_drop]; omega
        have hr : rootI size ((l.drop a).take n) = hashT size 4 [rootI size ((l.drop a).take (half n)), rootI size ((l.drop (a + half n)).take (n - half n))] := by
          rw [rootI_two size _ (by rw [hll]; exact h2), hll, List.take_take, Nat.min_eq_left (by omega), List.drop_take, List.drop_drop]
        rw [ho, outs_split h2 h, partsI_append, hs, List.append_assoc, List.append_assoc]
        refine ⟨?_, ?_⟩
        · rw [enough, if_neg (fun h' => h' h), dif_pos h2, f1, hs]
          exact ⟨e1, e2⟩
        · rw [foldI_two h h2, f1, hs]
          simp only [f2]
          rw [hr]
      · obtain rfl : n = 1 := by omega
        have ho : ovl l f t a 1 = [l.getD a []] := by
          simp only [ovl]
          rw [if_pos (by omega)]; rfl
        have hl1 : (l.drop a).take 1 = [l.getD a []] := by
          rw [List.drop_eq_getElem_cons (by omega), List.getD_eq_getElem?_getD, List.getElem?_eq_getElem (by omega)]; rfl
        rw [ho, outs_none (.inr (by omega)), hl1, rootI_one]
        refine ⟨?_, ?_⟩
        · rw [enough, if_neg (fun h' => h' h), dif_neg (by omega)]; simp
        · rw [foldI_in h]; simp [partsI]
    · rw [ovl_none l f t a n h, outs_one (by omega) h]
      have hp : partsI size l [((a : Int), n)] = [rootI size ((l.drop a).take n)] := by simp [partsI]
      rw [hp]
      refine ⟨?_, ?_⟩
      · rw [enough, if_pos h]; simp
      · rw [foldI_out h]; simp

theorem foldI_len (size f t : Int) : ∀ (m n : Nat), n ≤ m → ∀ (a : Int) (ins os : List (List Int)), (∀ p ∈ ins, p.length ≤ 32) → (∀ p ∈ os, p.length ≤ 32) → (foldI size f t a n ins os).1.length ≤ 32 := by
  intro m
  cases m with
  | zero =>
    intro n hn a ins os hi ho
    obtain rfl : n = 0 := by omega
    rw [foldI]
    split
    · exact headD_mem (P := fun p => p.length ≤ 32) ho (by simp)
    · rw [dif_neg (by omega)]
      exact headD_mem (P := fun p => p.length ≤ 32) hi (by simp)
  | succ m =>
    intro n hn a ins os hi ho
    by_cases h : f < t ∧ f < a + n ∧ a < t
    · by_cases h2 : 2 ≤ n
      · rw [foldI_two h h2]; exact hashT_len _ _ _
      · rw [foldI, if_neg (fun h' => h' h), dif_neg h2]
        exact headD_mem (P := fun p => p.length ≤ 32) hi (by simp)
    · rw [foldI_out h]
      exact headD_mem (P := fun p => p.length ≤ 32) ho (by simp)

end Go.Proofs.YtkabinicmdcbpaaDoor
