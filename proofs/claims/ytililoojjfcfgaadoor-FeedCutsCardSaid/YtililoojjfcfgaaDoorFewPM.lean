/- Plain laws of the parts that a span does not meet: which they are, how many. -/

namespace Go.Proofs.YtililoojjfcfgaaDoor
set_option linter.unusedVariables false

/-- The greatest power of two below n (n at least 2). -/
def half (n : Nat) : Nat := 2 ^ (n - 1).log2

theorem half_pos (n : Nat) : 0 < half n := Nat.pow_pos (by decide)
theorem half_lt (n : Nat) (h : 2 ≤ n) : half n < n := by
  have := Nat.log2_self_le (n := n - 1) (by omega)
  unfold half; omega
theorem half_ge (n : Nat) : n ≤ 2 * half n := by
  have := Nat.lt_log2_self (n := n - 1)
  unfold half
  rw [Nat.pow_succ] at this; omega
theorem half_le_pow (n D : Nat) (h2 : 2 ≤ n) (h : n ≤ 2 ^ (D + 1)) : half n ≤ 2 ^ D := by
  have h1 := half_lt n h2
  unfold half at *
  refine Nat.pow_le_pow_right (by decide) ?_
  have : 2 ^ (n - 1).log2 < 2 ^ (D + 1) := by omega
  have := (Nat.pow_lt_pow_iff_right (by decide : 1 < 2)).1 this
  omega

/-- The parts of the places a, a + 1, .., a + n - 1 that the span from f to t does not meet: the greatest ones. -/
def outs (f t a : Int) (n : Nat) : List (Int × Nat) :=
  if n = 0 ∨ (f ≤ a ∧ a + n ≤ t) then []
  else if ¬ (f < t ∧ f < a + n ∧ a < t) then [(a, n)]
  else if h : 2 ≤ n then outs f t a (half n) ++ outs f t (a + half n) (n - half n) else []
termination_by n
decreasing_by
  · exact half_lt n h
  · have := half_pos n; omega

theorem outs_none {f t a : Int} {n : Nat} (h : n = 0 ∨ (f ≤ a ∧ a + n ≤ t)) : outs f t a n = [] := by rw [outs, if_pos h]
theorem outs_one {f t a : Int} {n : Nat} (h : ¬ (n = 0 ∨ (f ≤ a ∧ a + n ≤ t))) (h2 : ¬ (f < t ∧ f < a + n ∧ a < t)) : outs f t a n = [(a, n)] := by rw [outs, if_neg h, if_pos h2]
theorem outs_two {f t a : Int} {n : Nat} (h : ¬ (n = 0 ∨ (f ≤ a ∧ a + n ≤ t))) (h2 : f < t ∧ f < a + n ∧ a < t) : 2 ≤ n ∧ outs f t a n = outs f t a (half n) ++ outs f t (a + half n) (n - half n) := by
  have h3 : 2 ≤ n := by omega
  refine ⟨h3, ?_⟩
  rw [outs, if_neg h, if_neg (by simpa using h2), dif_pos h3]

theorem outs_apart {f t a : Int} {n : Nat} (h2 : ¬ (f < t ∧ f < a + n ∧ a < t)) : (outs f t a n).length ≤ 1 := by
  by_cases h : n = 0 ∨ (f ≤ a ∧ a + n ≤ t)
  · rw [outs_none h]; simp
  · rw [outs_one h h2]; simp

theorem outs_len (D : Nat) : ∀ (n : Nat) (f t a : Int), n ≤ 2 ^ D → (f < t ∧ f < a + n ∧ a < t) →
    (outs f t a n).length ≤ 2 * D ∧ ((f ≤ a ∨ a + n ≤ t) → (outs f t a n).length ≤ D) := by
  induction D with
  | zero =>
    intro n f t a hn hm
    have : n = 0 ∨ (f ≤ a ∧ a + n ≤ t) := by simp at hn; omega
    rw [outs_none this]; simp
  | succ D ih =>
    intro n f t a hn hm
    by_cases h : n = 0 ∨ (f ≤ a ∧ a + n ≤ t)
    · rw [outs_none h]; simp
    · obtain ⟨h2, he⟩ := outs_two h hm
      have k1 := half_le_pow n D h2 hn
      have k2 := half_ge n
      have k3 := half_lt n h2
      have k4 := half_pos n
      have i1 := ih (half n) f t a k1
      have i2 := ih (n - half n) f t (a + half n) (by omega)
      have e1 := outs_apart (f := f) (t := t) (a := a) (n := half n)
      have e2 := outs_apart (f := f) (t := t) (a := a + half n) (n := n - half n)
      have z1 : (f ≤ a ∧ a + half n ≤ t) → (outs f t a (half n)).length = 0 := fun h => by rw [outs_none (.inr h)]; rfl
      have z2 : (f ≤ a + half n ∧ a + half n + (n - half n : Nat) ≤ t) → (outs f t (a + half n) (n - half n)).length = 0 := fun h => by rw [outs_none (.inr h)]; rfl
      rw [he, List.length_append]
      generalize (outs f t a (half n)).length = l1 at *
      generalize (outs f t (a + half n) (n - half n)).length = l2 at *
      have hc : ((n - half n : Nat) : Int) = n - half n := by omega
      rw [hc] at *
      generalize half n = k at *
      clear ih he
      by_cases b1 : f < a + k
      · by_cases b2 : a + k < t
        · have j1 := i1 (by omega)
          have j2 := i2 (by omega)
          omega
        · have j1 := i1 (by omega)
          have j2 := e2 (by omega)
          omega
      · have j1 := e1 (by omega)
        have j2 := i2 (by omega)
        omega

end Go.Proofs.YtililoojjfcfgaaDoor
