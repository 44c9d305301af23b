
/- Plain laws of records: their bytes, and what is read of bytes. Conditions: none. -/
import Derived.Test.YtjhannlioddkkaaGreatDoorUintP
namespace Go.Proofs.YtjhannlioddkkaaGreatDoor
open Go.RowKit
set_option linter.unusedVariables false

/-- How many links an epoch's record has. -/
def linksI (ep : Int) : Nat := ((List.range 9).filter fun k => decide (0 < ep) && decide (ep % 2 ^ k = 0)).length

def canI (size ep ti : Int) (tr : List Int) (co : Int) (li : List Int) (ln : List (List Int)) : Prop :=
  (0 ≤ size - 1 ∧ size - 1 ≤ 31) ∧ (0 ≤ ep ∧ ep ≤ 255) ∧ (0 ≤ ti ∧ ti ≤ 1125899906842624) ∧ (0 ≤ co ∧ co ≤ 32) ∧ ((tr.length : Int) = size ∧ (li.length : Int) = size) ∧ ln.length = linksI ep ∧ ∀ x ∈ ln, (x.length : Int) = size
instance (size ep ti : Int) (tr : List Int) (co : Int) (li : List Int) (ln : List (List Int)) : Decidable (canI size ep ti tr co li ln) := by unfold canI; infer_instance

def encI (ep ti : Int) (tr : List Int) (co : Int) (li : List Int) (ln : List (List Int)) : List Int :=
  uintN ep.toNat ++ (uintN ti.toNat ++ (bytesI tr ++ (uintN co.toNat ++ (bytesI li ++ ln.flatMap bytesI))))

/-- The links read off the reader, one by one. -/
abbrev LS := List (List Int) × List Int × Int
def lkStep (most : Int) (s : LS) : LS := (s.1 ++ [(bI most s.2.1 s.2.2).1], (bI most s.2.1 s.2.2).2.1, (bI most s.2.1 s.2.2).2.2)
def lkN (most : Int) : Nat → LS → LS
  | 0, s => s
  | k + 1, s => lkStep most (lkN most k s)
theorem lkN_len (most : Int) (k : Nat) (s : LS) : (lkN most k s).1.length = s.1.length + k := by
  induction k with
  | zero => rfl
  | succ k ih => show ((lkN most k s).1 ++ [_]).length = _; rw [List.length_append, ih]; simp; omega
theorem lkN_left (most : Int) (k : Nat) (s : LS) (bs : List Int) (h : s.2.1 = [] ∨ s.2.1 <:+ bs) : (lkN most k s).2.1 = [] ∨ (lkN most k s).2.1 <:+ bs := by
  induction k with
  | zero => exact h
  | succ k ih => exact suf_or (bI_left _ _ _) ih
theorem lkN_isB (most : Int) (k : Nat) (s : LS) (h1 : ∀ p ∈ s.1, IsB p) (h2 : IsB s.2.1) : (∀ p ∈ (lkN most k s).1, IsB p) ∧ IsB (lkN most k s).2.1 := by
  induction k with
  | zero => exact ⟨h1, h2⟩
  | succ k ih =>
    refine ⟨fun p hp => ?_, suf_isB (bI_left _ _ _) ih.2⟩
    rcases List.mem_append.1 hp with hp | hp
    · exact ih.1 p hp
    · simp only [List.mem_singleton] at hp
      subst hp
      exact bI_isB _ _ _ ih.2
theorem lkN_read (most : Int) (ln : List (List Int)) (rest : List Int) (h : ∀ p ∈ ln, (p.length : Int) ≤ most ∧ p.length ≤ 4611686018427387904) : ∀ k, k ≤ ln.length → lkN most k ([], ln.flatMap bytesI ++ rest, 0) = (ln.take k, (ln.drop k).flatMap bytesI ++ rest, 0)
  | 0, _ => by simp [lkN]
  | k + 1, hk => by
    show lkStep most (lkN most k ([], ln.flatMap bytesI ++ rest, 0)) = _
    rw [lkN_read most ln rest h k (by omega)]
    have hp := h _ (List.getElem_mem (show k < ln.length by omega))
    have e : (ln.drop k).flatMap bytesI ++ rest = bytesI ln[k] ++ ((ln.drop (k + 1)).flatMap bytesI ++ rest) := by
      rw [List.drop_eq_getElem_cons (show k < ln.length by omega), List.flatMap_cons, List.append_assoc]
    unfold lkStep
    simp only [e, bytesI_read _ _ _ hp.1 hp.2]
    rw [List.take_succ_eq_append_getElem (show k < ln.length by omega)]

/-- What is read of bytes, part by part: each behind the last. -/
def d1 (b : List Int) : Int × List Int × Int := uI 255 b 0
def d2 (b : List Int) : Int × List Int × Int := uI 1125899906842624 (d1 b).2.1 (d1 b).2.2
def d3 (m : Int) (b : List Int) : List Int × List Int × Int := bI m (d2 b).2.1 (d2 b).2.2
def d4 (m : Int) (b : List Int) : Int × List Int × Int := uI 32 (d3 m b).2.1 (d3 m b).2.2
def d5 (m : Int) (b : List Int) : List Int × List Int × Int := bI m (d4 m b).2.1 (d4 m b).2.2
def d6 (m : Int) (b : List Int) : LS := lkN m (linksI (d1 b).1) ([], (d5 m b).2.1, (d5 m b).2.2)

theorem d_left (m : Int) (b : List Int) : ((d1 b).2.1 = [] ∨ (d1 b).2.1 <:+ b) ∧ ((d2 b).2.1 = [] ∨ (d2 b).2.1 <:+ b) ∧ ((d3 m b).2.1 = [] ∨ (d3 m b).2.1 <:+ b) ∧ ((d4 m b).2.1 = [] ∨ (d4 m b).2.1 <:+ b) ∧ ((d5 m b).2.1 = [] ∨ (d5 m b).2.1 <:+ b) ∧ ∀ k, ((lkN m k ([], (d5 m b).2.1, (d5 m b).2.2)).2.1 = [] ∨ (lkN m k ([], (d5 m b).2.1, (d5 m b).2.2)).2.1 <:+ b) := by
  have h1 : (d1 b).2.1 = [] ∨ (d1 b).2.1 <:+ b := uI_left _ _ _
  have h2 : (d2 b).2.1 = [] ∨ (d2 b).2.1 <:+ b := suf_or (uI_left _ _ _) h1
  have h3 : (d3 m b).2.1 = [] ∨ (d3 m b).2.1 <:+ b := suf_or (bI_left _ _ _) h2
  have h4 : (d4 m b).2.1 = [] ∨ (d4 m b).2.1 <:+ b := suf_or (uI_left _ _ _) h3
  have h5 : (d5 m b).2.1 = [] ∨ (d5 m b).2.1 <:+ b := suf_or (bI_left _ _ _) h4
  exact ⟨h1, h2, h3, h4, h5, fun k => lkN_left m k _ b h5⟩

/-- Bytes that are a record. -/
def decOk (size : Int) (b : List Int) : Prop :=
  (d6 size b).2.2 = 0 ∧ (d6 size b).2.1 = [] ∧ canI size (d1 b).1 (d2 b).1 (d3 size b).1 (d4 size b).1 (d5 size b).1 (d6 size b).1 ∧ encI (d1 b).1 (d2 b).1 (d3 size b).1 (d4 size b).1 (d5 size b).1 (d6 size b).1 = b
instance (size : Int) (b : List Int) : Decidable (decOk size b) := by unfold decOk; infer_instance

/-- What was written is read. -/
theorem dec_enc {size ep ti co : Int} {tr li : List Int} {ln : List (List Int)} (m : Int) (hm : size ≤ m) (h : canI size ep ti tr co li ln) :
    d1 (encI ep ti tr co li ln) = (ep, uintN ti.toNat ++ (bytesI tr ++ (uintN co.toNat ++ (bytesI li ++ ln.flatMap bytesI))), 0) ∧ (d2 (encI ep ti tr co li ln)).1 = ti ∧ (d3 m (encI ep ti tr co li ln)).1 = tr ∧ (d4 m (encI ep ti tr co li ln)).1 = co ∧ (d5 m (encI ep ti tr co li ln)).1 = li ∧ d6 m (encI ep ti tr co li ln) = (ln, [], 0) := by
  obtain ⟨⟨s0, s1⟩, ⟨e0, e1⟩, ⟨t0, t1⟩, ⟨c0, c1⟩, ⟨htr, hli⟩, hln, hx⟩ := h
  have r1 : d1 (encI ep ti tr co li ln) = (ep, uintN ti.toNat ++ (bytesI tr ++ (uintN co.toNat ++ (bytesI li ++ ln.flatMap bytesI))), 0) := by
    unfold d1 encI
    rw [uintN_read ep.toNat (by omega) 255 (by omega), Int.toNat_of_nonneg e0]
  have r2 : d2 (encI ep ti tr co li ln) = (ti, bytesI tr ++ (uintN co.toNat ++ (bytesI li ++ ln.flatMap bytesI)), 0) := by
    unfold d2
    rw [r1]
    simp only
    rw [uintN_read ti.toNat (by omega) 1125899906842624 (by omega), Int.toNat_of_nonneg t0]
  have r3 : d3 m (encI ep ti tr co li ln) = (tr, uintN co.toNat ++ (bytesI li ++ ln.flatMap bytesI), 0) := by
    unfold d3
    rw [r2]
    simp only
    rw [bytesI_read tr _ m (by omega) (by omega)]
  have r4 : d4 m (encI ep ti tr co li ln) = (co, bytesI li ++ ln.flatMap bytesI, 0) := by
    unfold d4
    rw [r3]
    simp only
    rw [uintN_read co.toNat (by omega) 32 (by omega), Int.toNat_of_nonneg c0]
  have r5 : d5 m (encI ep ti tr co li ln) = (li, ln.flatMap bytesI, 0) := by
    unfold d5
    rw [r4]
    simp only
    rw [bytesI_read li _ m (by omega) (by omega)]
  refine ⟨r1, by rw [r2], by rw [r3], by rw [r4], by rw [r5], ?_⟩
  unfold d6
  rw [r5, r1]
  simp only
  have := lkN_read m ln [] (fun p hp => ⟨by have := hx p hp; omega, by have := hx p hp; omega⟩) ln.length (Nat.le_refl _)
  rw [List.append_nil] at this
  rw [← hln, this]
  simp

theorem dec_enc_ok {size ep ti co : Int} {tr li : List Int} {ln : List (List Int)} (h : canI size ep ti tr co li ln) : decOk size (encI ep ti tr co li ln) := by
  obtain ⟨r1, r2, r3, r4, r5, r6⟩ := dec_enc size (Int.le_refl _) h
  unfold decOk
  rw [r1, r2, r3, r4, r5, r6]
  exact ⟨rfl, rfl, h, rfl⟩

end Go.Proofs.YtjhannlioddkkaaGreatDoor
