
/- A log on a device: its records as sectors, what is read back, plainly. Conditions: none. -/
import Derived.Test.YtgfkejecigefbaaDoorScut
import Derived.Test.YtgfkejecigefbaaDoorTextD
import Derived.Test.YtgfkejecigefbaaDoorDvD
namespace Go.Proofs.YtgfkejecigefbaaDoor
open Go.RowKit
set_option linter.unusedVariables false

def fourI (n : Int) : List Int := (numI n).drop 4
def alB : List Int := [65, 76, 0, 0, 0, 0, 0, 0]
def headT (n : Int) (bs : List Int) : List Int := numI n ++ (fourI bs.length ++ bs)
def textS (n : Int) (bs : List Int) : List (List Int) := cut64 (headT n bs)
def markB (n : Int) (t : List (List Int)) : List Int := alB ++ (numI n ++ (fourI t.length ++ sumI t.flatten))
/-- A record's sectors, its mark last. -/
def laidI (n : Int) (bs : List Int) : List (List Int) := textS n bs ++ cut64 (markB n (textS n bs))
/-- What bytes say. -/
def valI (bs : List Int) : Int := bs.foldl (fun n x => n * 256 + x) 0

theorem numI_len (n : Int) : (numI n).length = 8 := by simp [numI]
theorem fourI_len (n : Int) : (fourI n).length = 4 := by simp [fourI, numI]
theorem fourI_isB (n : Int) : IsB (fourI n) := (numI_isB n).drop 4
theorem fourI_eq (n : Int) : fourI n = [n / 256 ^ 3 % 256, n / 256 ^ 2 % 256, n / 256 ^ 1 % 256, n / 256 ^ 0 % 256] := by
  simp [fourI, numI, List.range_succ]
theorem valI_four (n : Int) (h0 : 0 ≤ n) (h1 : n < 4294967296) : valI (fourI n) = n := by
  rw [fourI_eq]
  simp only [valI, List.foldl_cons, List.foldl_nil]
  have e3 : (256 : Int) ^ 3 = 16777216 := by decide
  have e2 : (256 : Int) ^ 2 = 65536 := by decide
  rw [e3, e2, Int.pow_one, Int.pow_zero, Int.ediv_one]
  omega
theorem alB_isB : IsB alB := by intro x hx; simp [alB] at hx; omega
theorem headT_len (n : Int) (bs : List Int) : (headT n bs).length = 12 + bs.length := by simp [headT, numI_len, fourI_len]; omega
theorem headT_isB (n : Int) {bs : List Int} (h : IsB bs) : IsB (headT n bs) := (numI_isB n).append ((fourI_isB _).append h)
theorem markB_len (n : Int) (t : List (List Int)) : (markB n t).length = 52 := by simp [markB, numI_len, fourI_len, sumI_len, alB]
theorem markB_isB (n : Int) (t : List (List Int)) : IsB (markB n t) := alB_isB.append ((numI_isB n).append ((fourI_isB _).append (sumI_isB _)))
theorem textS_len (n : Int) (bs : List Int) : (textS n bs).length = (75 + bs.length) / 64 := by
  unfold textS; rw [cut64_len, headT_len]; unfold parts64; omega
theorem textS_isB (n : Int) {bs : List Int} (h : IsB bs) : ∀ p ∈ textS n bs, IsB p := cut64_isB (headT_isB n h)
theorem textS_64 (n : Int) (bs : List Int) : ∀ p ∈ textS n bs, p.length = 64 := cut64_64 _
theorem markS_len (n : Int) (t : List (List Int)) : (cut64 (markB n t)).length = 1 := by rw [cut64_len, markB_len]; decide
theorem laidI_len (n : Int) (bs : List Int) : (laidI n bs).length = (75 + bs.length) / 64 + 1 := by unfold laidI; rw [List.length_append, textS_len, markS_len]
theorem laidI_isB (n : Int) {bs : List Int} (h : IsB bs) : ∀ p ∈ laidI n bs, IsB p := by
  intro p hp
  rcases List.mem_append.1 hp with h1 | h1
  · exact textS_isB n h p h1
  · exact cut64_isB (markB_isB _ _) p h1
theorem laidI_64 (n : Int) (bs : List Int) : ∀ p ∈ laidI n bs, p.length = 64 := by
  intro p hp
  rcases List.mem_append.1 hp with h1 | h1
  · exact textS_64 n bs p h1
  · exact cut64_64 _ p h1
theorem flat64_len : ∀ {l : List (List Int)}, (∀ p ∈ l, p.length = 64) → l.flatten.length = 64 * l.length
  | [], _ => rfl
  | p :: r, h => by
    rw [List.flatten_cons, List.length_append, flat64_len (fun q hq => h q (by simp [hq])), h p (by simp), List.length_cons]; omega
theorem flat_isB : ∀ {l : List (List Int)}, (∀ p ∈ l, IsB p) → IsB l.flatten
  | [], _ => by intro x hx; cases hx
  | p :: r, h => by rw [List.flatten_cons]; exact (h p (by simp)).append (flat_isB fun q hq => h q (by simp [hq]))

/-- The length that a place of an image says, and the sectors of such a text. -/
def lenAt (img : List (List Int)) : Int := valI (((img.getD 0 []).drop 8).take 4)
def secsOf (n : Int) : Nat := ((11 + n) / 64 + 1).toNat
def bodyI (img : List (List Int)) : List Int := (((img.take (secsOf (lenAt img))).flatten.drop 12).take (lenAt img).toNat)
def nextFit (img : List (List Int)) : Prop := 1 ≤ lenAt img ∧ lenAt img ≤ 4000 ∧ secsOf (lenAt img) < img.length
instance (img : List (List Int)) : Decidable (nextFit img) := by unfold nextFit; infer_instance
def nextOk (img : List (List Int)) (num : Int) : Bool := decide (nextFit img ∧ laidI num (bodyI img) = img.take (laidI num (bodyI img)).length)
/-- The right record at a place of an image, with its sectors. -/
def nextI (img : List (List Int)) (num : Int) : Option (List Int × Nat) := if nextOk img num = true then some (bodyI img, (laidI num (bodyI img)).length) else none

theorem valI_bd : ∀ (l : List Int) (a : Int) (k : Nat), IsB l → 0 ≤ a → a < 256 ^ k → 0 ≤ l.foldl (fun n x => n * 256 + x) a ∧ l.foldl (fun n x => n * 256 + x) a < 256 ^ (k + l.length)
  | [], a, k, _, h0, h1 => ⟨h0, h1⟩
  | x :: r, a, k, hB, h0, h1 => by
    have hx := hB x (by simp)
    have := valI_bd r (a * 256 + x) (k + 1) (fun y hy => hB y (by simp [hy])) (by omega) (by rw [Int.pow_succ]; omega)
    rw [List.foldl_cons, List.length_cons, show k + (r.length + 1) = k + 1 + r.length by omega]
    exact this
theorem lenAt_bd {img : List (List Int)} (h : ∀ p ∈ img, IsB p) : 0 ≤ lenAt img ∧ lenAt img < 4294967296 := by
  have hB : IsB (((img.getD 0 []).drop 8).take 4) := by
    refine ((?_ : IsB _).drop 8).take 4
    rw [List.getD_eq_getElem?_getD]
    cases hq : img[0]? with
    | none => intro x hx; cases hx
    | some p => exact h p (List.mem_of_getElem? hq)
  have hl : (((img.getD 0 []).drop 8).take 4).length ≤ 4 := by rw [List.length_take]; omega
  have h2 := valI_bd (((img.getD 0 []).drop 8).take 4) 0 0 hB (by omega) (by decide)
  refine ⟨h2.1, Int.lt_of_lt_of_le h2.2 ?_⟩
  rw [Nat.zero_add]
  generalize (((img.getD 0 []).drop 8).take 4).length = m at *
  match m, hl with
  | 0, _ => decide
  | 1, _ => decide
  | 2, _ => decide
  | 3, _ => decide
  | 4, _ => decide
theorem bodyI_len {img : List (List Int)} (h : ∀ p ∈ img, p.length = 64) (hf : nextFit img) : (bodyI img).length = (lenAt img).toNat := by
  obtain ⟨h1, h2, h3⟩ := hf
  unfold bodyI
  rw [List.length_take, List.length_drop, flat64_len (fun p hp => h p (List.mem_of_mem_take hp)), List.length_take]
  unfold secsOf at *
  omega
theorem bodyI_isB {img : List (List Int)} (h : ∀ p ∈ img, IsB p) : IsB (bodyI img) := ((flat_isB fun p hp => h p (List.mem_of_mem_take hp)).drop 12).take _
theorem laid_fit {img : List (List Int)} (num : Int) (h : ∀ p ∈ img, p.length = 64) (hf : nextFit img) : (laidI num (bodyI img)).length = secsOf (lenAt img) + 1 ∧ (laidI num (bodyI img)).length ≤ img.length := by
  have hb := bodyI_len h hf
  obtain ⟨h1, h2, h3⟩ := hf
  rw [laidI_len, hb]
  unfold secsOf at *
  omega

end Go.Proofs.YtgfkejecigefbaaDoor
