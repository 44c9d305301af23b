
/- A log on a device: what opening, wiping, writing and appending do, plainly. Conditions: none. -/
import Derived.Test.YtgfkejecigefbaaDoorSgP
namespace Go.Proofs.YtgfkejecigefbaaDoor
open Go.RowKit
set_option linter.unusedVariables false

/-- What a log is: how many sectors, where its records end, its records, whether it has stopped. -/
structure LSt where
  secs : Nat
  fin : Nat
  l : List (List Int)
  stop : Bool
def zS : List Int := List.replicate 64 0
theorem zS_len : zS.length = 64 := by simp [zS]
theorem zS_isB : IsB zS := fun x hx => by obtain ⟨_, rfl⟩ := List.mem_replicate.1 hx; omega

def scanI (img : List (List Int)) : Nat → Nat → List (List Int) → List (List Int) × Nat
  | 0, e, l => (l, e)
  | f + 1, e, l => match nextI (img.drop e) ((l.length : Int) + 1) with
    | none => (l, e)
    | some (b, n) => scanI img f (e + n) (l ++ [b])
def scanAll (img : List (List Int)) : List (List Int) × Nat := scanI img (img.length + 1) 0 []
theorem scanI_none {img : List (List Int)} {f e : Nat} {l : List (List Int)} (h : nextI (img.drop e) ((l.length : Int) + 1) = none) : scanI img f e l = (l, e) := by
  cases f with
  | zero => rfl
  | succ f => rw [scanI, h]
theorem scanI_some {img : List (List Int)} {f e n : Nat} {l : List (List Int)} {b : List Int} (h : nextI (img.drop e) ((l.length : Int) + 1) = some (b, n)) : scanI img (f + 1) e l = scanI img f (e + n) (l ++ [b]) := by
  rw [scanI, h]
theorem nextI_some {img : List (List Int)} {num : Int} {b : List Int} {n : Nat} (h : nextI img num = some (b, n)) : nextOk img num = true ∧ b = bodyI img ∧ n = (laidI num (bodyI img)).length := by
  unfold nextI at h
  split at h
  · rename_i hk
    cases h
    exact ⟨hk, rfl, rfl⟩
  · cases h
theorem nextI_le {img : List (List Int)} (h64 : ∀ p ∈ img, p.length = 64) {num : Int} {b : List Int} {n : Nat} (h : nextI img num = some (b, n)) : n ≤ img.length ∧ 1 ≤ n ∧ 1 ≤ b.length ∧ b.length ≤ 4000 := by
  obtain ⟨h1, rfl, rfl⟩ := nextI_some h
  unfold nextOk at h1
  rw [decide_eq_true_eq] at h1
  have h2 := laid_fit num h64 h1.1
  have h3 := bodyI_len h64 h1.1
  obtain ⟨h4, h5, h6⟩ := h1.1
  refine ⟨h2.2, by omega, by omega, by omega⟩
/-- Where scanning ends, nothing follows. -/
theorem scanI_le {img : List (List Int)} (h64 : ∀ p ∈ img, p.length = 64) : ∀ (f e : Nat) (l : List (List Int)), e ≤ img.length → (scanI img f e l).2 ≤ img.length
  | 0, e, l, h => h
  | f + 1, e, l, h => by
    rw [scanI]
    cases hn : nextI (img.drop e) ((l.length : Int) + 1) with
    | none => exact h
    | some x =>
      obtain ⟨b, n⟩ := x
      have := nextI_le (fun p hp => h64 p (List.mem_of_mem_drop hp)) hn
      rw [List.length_drop] at this
      exact scanI_le h64 f (e + n) _ (by omega)

/-- Noughts over what is left behind the last record. -/
def wipeD : List (List Int) → Nat → Bool → DSt → DSt × Int
  | [], _, wrote, d => if wrote = true then (d.synced, d.chgE) else (d, 0)
  | s :: r, i, wrote, d => if s = zS then wipeD r (i + 1) wrote d else if d.wrE i zS = 0 then wipeD r (i + 1) true (d.wrote i zS) else (d.wrote i zS, d.wrE i zS)
/-- Sectors from a place on, and synced. -/
def putW : List (List Int) → Nat → DSt → DSt × Int
  | [], _, d => (d.synced, d.chgE)
  | s :: r, i, d => if d.wrE i s = 0 then putW r (i + 1) (d.wrote i s) else (d.wrote i s, d.wrE i s)
def DSt.img (d : DSt) : List (List Int) := d.l.map Sec.now
def DSt.wiped (d : DSt) : DSt × Int := wipeD (d.img.drop (scanAll d.img).2) (scanAll d.img).2 false d
/-- Opening a log: the device behind it, and the error. -/
def DSt.opened (d : DSt) : DSt × Int := if d.dead = true then (d, 70) else d.wiped
def DSt.log (d : DSt) : LSt := ⟨d.l.length, (scanAll d.img).2, (scanAll d.img).1, false⟩

structure LRes where
  s : LSt
  d : DSt
  e : Int
/-- Writing a record's sectors: the text, then its mark. -/
def layD (n : Int) (bs : List Int) (at_ : Nat) (d : DSt) : DSt × Int :=
  if (putW (textS n bs) at_ d).2 = 0 then putW (cut64 (markB n (textS n bs))) (at_ + (textS n bs).length) (putW (textS n bs) at_ d).1 else putW (textS n bs) at_ d
def appD (s : LSt) (d : DSt) (bs : List Int) : LRes :=
  if bs.length < 1 ∨ 4000 < bs.length then ⟨s, d, 1⟩
  else if s.stop = true then ⟨s, d, 70⟩
  else if s.secs < s.fin + (laidI ((s.l.length : Int) + 1) bs).length then ⟨s, d, 4⟩
  else if (layD ((s.l.length : Int) + 1) bs s.fin d).2 = 0 then ⟨⟨s.secs, s.fin + (laidI ((s.l.length : Int) + 1) bs).length, s.l ++ [bs], false⟩, (layD ((s.l.length : Int) + 1) bs s.fin d).1, 0⟩
  else ⟨⟨s.secs, s.fin, s.l, true⟩, (layD ((s.l.length : Int) + 1) bs s.fin d).1, (layD ((s.l.length : Int) + 1) bs s.fin d).2⟩
def roomI (s : LSt) : Int := min (max (64 * ((s.secs : Int) - s.fin - 1) - 12) 0) 4000

end Go.Proofs.YtgfkejecigefbaaDoor
