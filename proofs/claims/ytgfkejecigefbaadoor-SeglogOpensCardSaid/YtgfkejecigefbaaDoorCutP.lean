
/- The cuts of a page, as lists: the plain law of what they add up to. Conditions: none. -/
import Derived.Lib.Hide
namespace Go.Proofs.YtgfkejecigefbaaDoor
set_option linter.unusedVariables false

/-- Which epoch, from which change, to which one. -/
structure CutP where
  at_ : Nat
  lo : Int
  hi : Int

/-- Where an epoch's cut ends. -/
def cutTo (index limit n : Int) : Int := if limit < n - index then index + limit else n
/-- The cuts of these epochs, the first of which is the k-th. -/
def cutsFrom : Nat → Int → Int → List Int → List CutP
  | _, _, _, [] => []
  | k, index, limit, n :: r => if n < 1 ∨ limit < 1 then [] else ⟨k, index, cutTo index limit n⟩ :: cutsFrom (k + 1) 0 (limit - (cutTo index limit n - index)) r
/-- The cuts of a page. -/
def cutsI (xs : List Int) (index limit : Int) : List CutP :=
  if xs = [] ∨ index < 0 ∨ xs.getD 0 0 ≤ index then [] else cutsFrom 0 index limit xs

def sumC (l : List CutP) : Int := (l.map fun c => c.hi - c.lo).sum
theorem sumC_nil : sumC [] = 0 := rfl
theorem sumC_cons (c : CutP) (l : List CutP) : sumC (c :: l) = (c.hi - c.lo) + sumC l := by simp [sumC]
theorem sumC_snoc (l : List CutP) (c : CutP) : sumC (l ++ [c]) = sumC l + (c.hi - c.lo) := by simp [sumC]

theorem cutTo_le {index limit n : Int} (h : index < n) (hl : 1 ≤ limit) : index < cutTo index limit n ∧ cutTo index limit n ≤ n ∧ cutTo index limit n - index ≤ limit := by
  unfold cutTo; split <;> omega

theorem cutsFrom_length : ∀ (xs : List Int) (k : Nat) (index limit : Int), (cutsFrom k index limit xs).length ≤ xs.length
  | [], _, _, _ => by simp [cutsFrom]
  | n :: r, k, index, limit => by
    unfold cutsFrom
    split
    · simp
    · simp; exact cutsFrom_length r _ _ _
theorem cutsI_length (xs : List Int) (index limit : Int) : (cutsI xs index limit).length ≤ xs.length := by
  unfold cutsI
  split
  · simp
  · exact cutsFrom_length _ _ _ _

/-- Every cut is a range of its epoch. -/
theorem cutsFrom_mem : ∀ (xs : List Int) (k : Nat) (index limit : Int), 0 ≤ index → (∀ n, xs.head? = some n → index < n ∨ n < 1) → ∀ c ∈ cutsFrom k index limit xs, 0 ≤ c.lo ∧ c.lo < c.hi ∧ k ≤ c.at_ ∧ (∃ n, xs[c.at_ - k]? = some n ∧ c.hi ≤ n)
  | [], _, _, _, _, _ => by simp [cutsFrom]
  | n :: r, k, index, limit, h0, hh => by
    unfold cutsFrom
    split
    · simp
    · rename_i hg
      have hn := (hh n rfl).resolve_right (by omega)
      have hc := cutTo_le hn (limit := limit) (by omega)
      intro c hm
      rcases List.mem_cons.1 hm with rfl | hm
      · exact ⟨h0, hc.1, Nat.le_refl _, n, by simp, hc.2.1⟩
      · obtain ⟨a, b, d, m, e, f⟩ := cutsFrom_mem r (k + 1) 0 _ (Int.le_refl _) (fun m hm => by omega) c hm
        refine ⟨a, b, by omega, m, ?_, f⟩
        rw [show c.at_ - k = (c.at_ - (k + 1)) + 1 by omega, List.getElem?_cons_succ]
        exact e

theorem cutsFrom_sum : ∀ (xs : List Int) (k : Nat) (index limit : Int), 0 ≤ index → 0 ≤ limit → (∀ n, xs.head? = some n → index < n ∨ n < 1) →
    (∀ p c q, cutsFrom k index limit xs = p ++ c :: q → sumC p + (c.hi - c.lo) ≤ limit) ∧
    (sumC (cutsFrom k index limit xs) = limit ∨ (cutsFrom k index limit xs).length = xs.length ∨ ∃ n, xs[(cutsFrom k index limit xs).length]? = some n ∧ n < 1)
  | [], _, _, _, _, _, _ => by simp [cutsFrom]
  | n :: r, k, index, limit, h0, hl, hh => by
    unfold cutsFrom
    split
    · rename_i hg
      refine ⟨by simp, ?_⟩
      rcases hg with hg | hg
      · exact .inr (.inr ⟨n, by simp, hg⟩)
      · exact .inl (by simp [sumC]; omega)
    · rename_i hg
      have hn := (hh n rfl).resolve_right (by omega)
      have hc := cutTo_le hn (limit := limit) (by omega)
      obtain ⟨ih1, ih2⟩ := cutsFrom_sum r (k + 1) 0 (limit - (cutTo index limit n - index)) (Int.le_refl _) (by omega) (fun m hm => by omega)
      refine ⟨fun p c q e => ?_, ?_⟩
      · cases p with
        | nil =>
          simp only [List.nil_append, List.cons.injEq] at e
          rw [← e.1]
          rw [sumC_nil]; show 0 + (cutTo index limit n - index) ≤ limit; omega
        | cons d p =>
          simp only [List.cons_append, List.cons.injEq] at e
          have := ih1 p c q e.2
          rw [sumC_cons, ← e.1]
          show (cutTo index limit n - index) + sumC p + (c.hi - c.lo) ≤ limit
          omega
      · rw [sumC_cons, List.length_cons, List.length_cons, List.getElem?_cons_succ]
        show (cutTo index limit n - index) + sumC _ = limit ∨ _
        rcases ih2 with h | h | h
        · exact .inl (by omega)
        · exact .inr (.inl (by omega))
        · exact .inr (.inr h)

theorem sumC_nonneg : ∀ (l : List CutP), (∀ c ∈ l, c.lo < c.hi) → (l.length : Int) ≤ sumC l
  | [], _ => by simp [sumC]
  | c :: l, h => by
    have h1 := sumC_nonneg l (fun d hd => h d (List.mem_cons_of_mem _ hd))
    have h2 := h c List.mem_cons_self
    rw [sumC_cons, List.length_cons]; omega

/-- The cuts of a page, all that is asked of them. -/
theorem cutsI_law (xs : List Int) (index limit : Int) :
    (∀ c ∈ cutsI xs index limit, 0 ≤ c.lo ∧ c.lo < c.hi ∧ (∃ n, xs[c.at_]? = some n ∧ c.hi ≤ n)) ∧
    (∀ p c q, cutsI xs index limit = p ++ c :: q → sumC p + (c.hi - c.lo) ≤ limit) ∧
    (cutsI xs index limit = [] ∨ sumC (cutsI xs index limit) = limit ∨ (cutsI xs index limit).length = xs.length ∨ ∃ n, xs[(cutsI xs index limit).length]? = some n ∧ n < 1) := by
  unfold cutsI
  split
  · simp
  · rename_i hg
    have hh : ∀ n, xs.head? = some n → index < n ∨ n < 1 := fun n hn => by
      cases xs with
      | nil => simp at hn
      | cons a r => simp at hn; subst hn; simp at hg; omega
    by_cases hl : limit < 1
    · have e : cutsFrom 0 index limit xs = [] := by
        cases xs with
        | nil => rfl
        | cons a r => unfold cutsFrom; rw [if_pos (.inr hl)]
      rw [e]; simp
    · obtain ⟨h1, h2⟩ := cutsFrom_sum xs 0 index limit (by omega) (by omega) hh
      refine ⟨fun c hc => ?_, h1, .inr h2⟩
      obtain ⟨a, b, _, n, e, f⟩ := cutsFrom_mem xs 0 index limit (by omega) hh c hc
      exact ⟨a, b, n, by simpa using e, f⟩

end Go.Proofs.YtgfkejecigefbaaDoor
