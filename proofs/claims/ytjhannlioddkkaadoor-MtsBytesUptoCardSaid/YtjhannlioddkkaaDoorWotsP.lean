
/- The plain law of the digits, for the law WotsChecks. -/
import Derived.Test.YtjhannlioddkkaaDoorDigits
import Derived.Test.YtjhannlioddkkaaDoorEqInts
namespace Go.Proofs.YtjhannlioddkkaaDoor
open Go.RowKit
set_option linter.unusedVariables false

/-- Some number of the first k of x is less than that of y. -/
def ltUpto (x y : List Int) (k : Nat) : Bool := (List.range k).any fun j => decide (x.getD j 0 < y.getD j 0)

theorem ltUpto_succ (x y : List Int) (k : Nat) : ltUpto x y (k + 1) = (ltUpto x y k || decide (x.getD k 0 < y.getD k 0)) := by
  simp [ltUpto, List.range_succ]

theorem ltUpto_false {x y : List Int} {k : Nat} (h : ltUpto x y k = false) (j : Nat) (hj : j < k) : y.getD j 0 ≤ x.getD j 0 := by
  simp [ltUpto] at h
  have := h j hj
  simpa [List.getD_eq_getElem?_getD] using this

theorem ltUpto_self (x : List Int) (k : Nat) : ltUpto x x k = false := by simp [ltUpto]

theorem inv3_le : ∀ {a b : List Int}, a.length = b.length → (∀ j, j < a.length → a.getD j 0 ≤ b.getD j 0) → inv3 b ≤ inv3 a ∧ (inv3 a ≤ inv3 b → a = b)
  | [], [], _, _ => ⟨by simp [inv3], fun _ => rfl⟩
  | [], _ :: _, h, _ => by simp at h
  | _ :: _, [], h, _ => by simp at h
  | x :: xs, y :: ys, h, hle => by
    have h0 := hle 0 (by simp)
    have ih := inv3_le (a := xs) (b := ys) (by simpa using h) (fun j hj => by have := hle (j + 1) (by simp; omega); simpa using this)
    simp only [inv3, List.map_cons, List.sum_cons, List.getD_cons_zero] at *
    refine ⟨by omega, fun he => ?_⟩
    rw [ih.2 (by omega), show x = y by omega]

theorem quarter_le {x y : Int} (hq : x / 4 ≤ y / 4) (h : x % 4 ≤ y % 4) : x ≤ y := by omega
theorem quarter_64 (x : Int) : x / 64 / 4 = x / 256 := by omega
theorem quarter_16 (x : Int) : x / 16 / 4 = x / 64 := by omega
theorem quarter_4 (x : Int) : x / 4 / 4 = x / 16 := by omega
theorem quarter_top {x y : Int} (hx : 0 ≤ x ∧ x ≤ 1023) (hy : 0 ≤ y ∧ y ≤ 1023) (h : x / 256 % 4 ≤ y / 256 % 4) : x / 256 ≤ y / 256 := by
  have h1 : x / 256 % 4 = x / 256 := by omega
  have h2 : y / 256 % 4 = y / 256 := by omega
  rw [h1, h2] at h; exact h

theorem check_le (c d : Int) (hc : 0 ≤ c ∧ c ≤ 1023) (hd : 0 ≤ d ∧ d ≤ 1023) (h : ∀ j, j < 5 → (checkDigs c).getD j 0 ≤ (checkDigs d).getD j 0) : c ≤ d := by
  have h0 : c / 256 % 4 ≤ d / 256 % 4 := h 0 (by omega)
  have h1 : c / 64 % 4 ≤ d / 64 % 4 := h 1 (by omega)
  have h2 : c / 16 % 4 ≤ d / 16 % 4 := h 2 (by omega)
  have h3 : c / 4 % 4 ≤ d / 4 % 4 := h 3 (by omega)
  have h4 : c % 4 ≤ d % 4 := h 4 (by omega)
  have e0 := quarter_top hc hd h0
  have e1 := quarter_le (x := c / 64) (y := d / 64) (by rw [quarter_64, quarter_64]; exact e0) h1
  have e2 := quarter_le (x := c / 16) (y := d / 16) (by rw [quarter_16, quarter_16]; exact e1) h2
  have e3 := quarter_le (x := c / 4) (y := d / 4) (by rw [quarter_4, quarter_4]; exact e2) h3
  exact quarter_le e3 h4

theorem four_eq {x y : Int} (hx : 0 ≤ x ∧ x ≤ 255) (hy : 0 ≤ y ∧ y ≤ 255) (h1 : x / 64 % 4 = y / 64 % 4) (h2 : x / 16 % 4 = y / 16 % 4) (h3 : x / 4 % 4 = y / 4 % 4) (h4 : x % 4 = y % 4) : x = y := by
  have e1 : x / 64 = y / 64 := by
    have a1 : x / 64 % 4 = x / 64 := by omega
    have a2 : y / 64 % 4 = y / 64 := by omega
    rw [a1, a2] at h1; exact h1
  have e2 : x / 16 = y / 16 := by have := quarter_16 x; have := quarter_16 y; omega
  have e3 : x / 4 = y / 4 := by have := quarter_4 x; have := quarter_4 y; omega
  omega

theorem digs_inj : ∀ {a b : List Int}, IsB a → IsB b → digs a = digs b → a = b
  | [], [], _, _, _ => rfl
  | [], y :: ys, _, _, h => by simp [digs, dig4] at h
  | x :: xs, [], _, _, h => by simp [digs, dig4] at h
  | x :: xs, y :: ys, ha, hb, h => by
    have h1 : dig4 x ++ digs xs = dig4 y ++ digs ys := by simpa [digs] using h
    simp only [dig4, List.cons_append, List.nil_append, List.cons.injEq] at h1
    have hx := ha x (by simp)
    have hy := hb y (by simp)
    rw [digs_inj (fun z hz => ha z (by simp [hz])) (fun z hz => hb z (by simp [hz])) h1.2.2.2.2, four_eq hx hy h1.1 h1.2.1 h1.2.2.1 h1.2.2.2.1]

theorem digits_le {a b : List Int} (ha : IsB a) (hb : IsB b) (hl : a.length = b.length) (h32 : a.length ≤ 32) (h : ∀ j, j < 4 * a.length + 5 → (digitsOf a).getD j 0 ≤ (digitsOf b).getD j 0) : a = b := by
  unfold digitsOf at h
  rw [List.take_of_length_le h32, List.take_of_length_le (by omega)] at h
  have la := digs_len a
  have lb := digs_len b
  have h1 := inv3_le (a := digs a) (b := digs b) (by omega) (fun j hj => by
    have := h j (by omega)
    rwa [List.getD_eq_getElem?_getD, List.getD_eq_getElem?_getD, List.getElem?_append_left (by omega), List.getElem?_append_left (by omega), ← List.getD_eq_getElem?_getD, ← List.getD_eq_getElem?_getD] at this)
  have ba := inv3_bd (digs a) (fun d hd => digs_mem hd)
  have bb := inv3_bd (digs b) (fun d hd => digs_mem hd)
  have h2 := check_le (inv3 (digs a)) (inv3 (digs b)) (by omega) (by omega) (fun j hj => by
    have := h (4 * a.length + j) (by omega)
    rwa [List.getD_eq_getElem?_getD, List.getD_eq_getElem?_getD, List.getElem?_append_right (by omega), List.getElem?_append_right (by omega), la, lb, hl, Nat.add_sub_cancel_left, ← List.getD_eq_getElem?_getD, ← List.getD_eq_getElem?_getD] at this)
  exact digs_inj ha hb (h1.2 h2)

theorem digits_len (a : List Int) (h32 : a.length ≤ 32) : (digitsOf a).length = 4 * a.length + 5 := by
  unfold digitsOf
  rw [List.take_of_length_le h32, List.length_append, digs_len]
  rfl

theorem digits_lt {a b : List Int} (ha : IsB a) (hb : IsB b) (hl : a.length = b.length) (h32 : a.length ≤ 32) : ltUpto (digitsOf a) (digitsOf b) (4 * a.length + 5) = !decide (a = b) := by
  by_cases he : a = b
  · subst he; simp [ltUpto_self]
  · cases hlt : ltUpto (digitsOf a) (digitsOf b) (4 * a.length + 5) with
    | true => simp [he]
    | false => exact absurd (digits_le hb ha hl.symm (by omega) (fun j hj => ltUpto_false hlt j (by omega))).symm he

theorem digits_mem {a : List Int} (h32 : a.length ≤ 32) (j : Nat) : 0 ≤ (digitsOf a).getD j 0 ∧ (digitsOf a).getD j 0 ≤ 3 := by
  have key : ∀ d ∈ digitsOf a, 0 ≤ d ∧ d ≤ 3 := by
    intro d hd
    unfold digitsOf at hd
    rcases List.mem_append.1 hd with h | h
    · exact digs_mem h
    · simp [checkDigs] at h; omega
  rw [List.getD_eq_getElem?_getD]
  rcases Nat.lt_or_ge j (digitsOf a).length with hi | hi
  · rw [List.getElem?_eq_getElem hi]; exact key _ (List.getElem_mem hi)
  · rw [List.getElem?_eq_none hi]; simp

end Go.Proofs.YtjhannlioddkkaaDoor
