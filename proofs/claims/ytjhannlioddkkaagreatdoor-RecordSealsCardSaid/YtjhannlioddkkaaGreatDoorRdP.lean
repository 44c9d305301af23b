
/- What the codec's reader tells: plain laws. Conditions: none. -/
import Derived.Test.YtjhannlioddkkaaGreatDoorBytes
namespace Go.Proofs.YtjhannlioddkkaaGreatDoor
open Go.RowKit
set_option linter.unusedVariables false

/-- The number that bytes spell, the greatest first. -/
def beN (l : List Int) : Int := l.foldl (fun n x => n * 256 + x) 0

theorem beN_nil : beN [] = 0 := rfl
theorem beN_snoc (l : List Int) (x : Int) : beN (l ++ [x]) = beN l * 256 + x := by simp [beN]
theorem beN_take (l : List Int) (k : Nat) (hk : k < l.length) : beN (l.take (k + 1)) = beN (l.take k) * 256 + l.getD k 0 := by
  rw [List.take_succ_eq_append_getElem hk, beN_snoc, List.getD_eq_getElem?_getD, List.getElem?_eq_getElem hk]; rfl
theorem beN_pos : ∀ (l : List Int), IsB l → 0 ≤ beN l ∧ beN l < 256 ^ l.length := by
  intro l
  induction hn : l.length generalizing l with
  | zero => intro _; obtain rfl := List.length_eq_zero_iff.1 hn; decide
  | succ n ih =>
    intro h
    have hl : l ≠ [] := by rintro rfl; simp at hn
    obtain ⟨m, x, rfl⟩ : ∃ m x, l = m ++ [x] := ⟨l.dropLast, l.getLast hl, (List.dropLast_concat_getLast hl).symm⟩
    have hm : m.length = n := by simp at hn; exact hn
    obtain ⟨h1, h2⟩ := ih m hm (fun y hy => h y (by simp [hy]))
    have hx := h x (by simp)
    rw [beN_snoc, Int.pow_succ]
    omega

/-- What a number off the reader is: the number, what is left, the error. -/
def uI (most : Int) (bs : List Int) (e : Int) : Int × List Int × Int :=
  if e ≠ 0 then (0, bs, e) else
  match bs with
  | [] => (0, [], 3)
  | h :: r =>
    if 8 < h then (0, [], 5) else
    if r.length < h.toNat then (0, [], 3) else
    if (0 < h.toNat ∧ r.getD 0 0 = 0) ∨ 4611686018427387904 < beN (r.take h.toNat) then (0, [], 5) else
    if most < beN (r.take h.toNat) then (0, [], 4) else (beN (r.take h.toNat), r.drop h.toNat, 0)

theorem uI_err (most : Int) (bs : List Int) (e : Int) (he : ¬ e = 0) : uI most bs e = (0, bs, e) := by unfold uI; rw [if_pos he]
theorem uI_nil (most : Int) : uI most [] 0 = (0, [], 3) := by simp [uI]
theorem uI_wide (most h : Int) (r : List Int) (h8 : 8 < h) : uI most (h :: r) 0 = (0, [], 5) := by simp [uI, h8]
theorem uI_short (most h : Int) (r : List Int) (h8 : ¬ 8 < h) (hl : r.length < h.toNat) : uI most (h :: r) 0 = (0, [], 3) := by simp only [uI, ne_eq, not_true_eq_false, if_false, if_neg h8, if_pos hl]
theorem uI_form (most h : Int) (r : List Int) (h8 : ¬ 8 < h) (hl : ¬ r.length < h.toNat) (hf : (0 < h.toNat ∧ r.getD 0 0 = 0) ∨ 4611686018427387904 < beN (r.take h.toNat)) : uI most (h :: r) 0 = (0, [], 5) := by
  simp only [uI, ne_eq, not_true_eq_false, if_false, if_neg h8, if_neg hl, if_pos hf]
theorem uI_full (most h : Int) (r : List Int) (h8 : ¬ 8 < h) (hl : ¬ r.length < h.toNat) (hf : ¬ ((0 < h.toNat ∧ r.getD 0 0 = 0) ∨ 4611686018427387904 < beN (r.take h.toNat))) (hm : most < beN (r.take h.toNat)) : uI most (h :: r) 0 = (0, [], 4) := by
  simp only [uI, ne_eq, not_true_eq_false, if_false, if_neg h8, if_neg hl, if_neg hf, if_pos hm]
theorem uI_ok (most h : Int) (r : List Int) (h8 : ¬ 8 < h) (hl : ¬ r.length < h.toNat) (hf : ¬ ((0 < h.toNat ∧ r.getD 0 0 = 0) ∨ 4611686018427387904 < beN (r.take h.toNat))) (hm : ¬ most < beN (r.take h.toNat)) : uI most (h :: r) 0 = (beN (r.take h.toNat), r.drop h.toNat, 0) := by
  simp only [uI, ne_eq, not_true_eq_false, if_false, if_neg h8, if_neg hl, if_neg hf, if_neg hm]

/-- What it leaves is bytes, no more than there were. -/
theorem uI_left (most : Int) (bs : List Int) (e : Int) : (uI most bs e).2.1 = [] ∨ (uI most bs e).2.1 <:+ bs := by
  unfold uI
  split
  · exact .inr (List.suffix_refl _)
  · split
    · exact .inl rfl
    · rename_i h r
      split
      · exact .inl rfl
      · split
        · exact .inl rfl
        · split
          · exact .inl rfl
          · split
            · exact .inl rfl
            · exact .inr ((List.drop_suffix _ _).trans (List.suffix_cons _ _))
theorem uI_val (most : Int) (bs : List Int) (e : Int) (hB : IsB bs) : 0 ≤ (uI most bs e).1 ∧ (uI most bs e).1 ≤ 4611686018427387904 ∧ ((uI most bs e).2.2 = 0 → (uI most bs e).1 ≤ most) ∧ (¬ (uI most bs e).2.2 = 0 → (uI most bs e).1 = 0) := by
  unfold uI
  split
  · rename_i he; exact ⟨Int.le_refl 0, (by decide : (0 : Int) ≤ 4611686018427387904), fun h => absurd h he, fun _ => rfl⟩
  · split
    · exact ⟨by decide, by decide, fun h => absurd h (by decide), fun _ => rfl⟩
    · rename_i h r
      split
      · exact ⟨by decide, by decide, fun h => absurd h (by decide), fun _ => rfl⟩
      · split
        · exact ⟨by decide, by decide, fun h => absurd h (by decide), fun _ => rfl⟩
        · split
          · exact ⟨by decide, by decide, fun h => absurd h (by decide), fun _ => rfl⟩
          · rename_i hf
            have hp := beN_pos (r.take h.toNat) (fun x hx => hB x (by simp [List.mem_of_mem_take hx]))
            split
            · exact ⟨by decide, by decide, fun h => absurd h (by decide), fun _ => rfl⟩
            · rename_i hm
              exact ⟨hp.1, Int.not_lt.1 fun h => hf (.inr h), fun _ => Int.not_lt.1 hm, fun h => absurd rfl h⟩

/-- A text off the reader. -/
def bI (most : Int) (bs : List Int) (e : Int) : List Int × List Int × Int :=
  if (uI most bs e).2.2 ≠ 0 then ([], (uI most bs e).2.1, (uI most bs e).2.2) else
  if (uI most bs e).2.1.length < (uI most bs e).1.toNat then ([], [], 3) else
  ((uI most bs e).2.1.take (uI most bs e).1.toNat, (uI most bs e).2.1.drop (uI most bs e).1.toNat, 0)

theorem bI_err (most : Int) (bs : List Int) (e : Int) (h : ¬ (uI most bs e).2.2 = 0) : bI most bs e = ([], (uI most bs e).2.1, (uI most bs e).2.2) := by unfold bI; rw [if_pos h]
theorem bI_short (most : Int) (bs : List Int) (e : Int) (h : (uI most bs e).2.2 = 0) (hl : (uI most bs e).2.1.length < (uI most bs e).1.toNat) : bI most bs e = ([], [], 3) := by unfold bI; rw [if_neg (by simpa using h), if_pos hl]
theorem bI_ok (most : Int) (bs : List Int) (e : Int) (h : (uI most bs e).2.2 = 0) (hl : ¬ (uI most bs e).2.1.length < (uI most bs e).1.toNat) :
    bI most bs e = ((uI most bs e).2.1.take (uI most bs e).1.toNat, (uI most bs e).2.1.drop (uI most bs e).1.toNat, 0) := by unfold bI; rw [if_neg (by simpa using h), if_neg hl]

theorem suf_or {a b c : List Int} (h1 : a = [] ∨ a <:+ b) (h2 : b = [] ∨ b <:+ c) : a = [] ∨ a <:+ c := by
  rcases h1 with rfl | h1
  · exact .inl rfl
  · rcases h2 with rfl | h2
    · exact .inl (List.suffix_nil.1 h1)
    · exact .inr (h1.trans h2)
theorem suf_isB {a b : List Int} (h : a = [] ∨ a <:+ b) (hB : IsB b) : IsB a := by
  rcases h with rfl | h
  · intro x hx; cases hx
  · exact fun x hx => hB x (h.subset hx)
theorem suf_len {a b : List Int} (h : a = [] ∨ a <:+ b) : a.length ≤ b.length := by
  rcases h with rfl | h
  · simp
  · exact h.length_le
theorem bI_left (most : Int) (bs : List Int) (e : Int) : (bI most bs e).2.1 = [] ∨ (bI most bs e).2.1 <:+ bs := by
  have h := uI_left most bs e
  unfold bI
  split
  · exact h
  · split
    · exact .inl rfl
    · exact suf_or (.inr (List.drop_suffix _ _)) h
theorem bI_isB (most : Int) (bs : List Int) (e : Int) (hB : IsB bs) : IsB (bI most bs e).1 := by
  have h := suf_isB (uI_left most bs e) hB
  unfold bI
  split
  · intro x hx; cases hx
  · split
    · intro x hx; cases hx
    · exact fun x hx => h x (List.mem_of_mem_take hx)
theorem bI_len (most : Int) (bs : List Int) (e : Int) : (bI most bs e).1.length + (bI most bs e).2.1.length ≤ bs.length := by
  have h := suf_len (uI_left most bs e)
  unfold bI
  split
  · simpa using h
  · split
    · simp
    · simp only [List.length_take, List.length_drop]; omega

end Go.Proofs.YtjhannlioddkkaaGreatDoor
