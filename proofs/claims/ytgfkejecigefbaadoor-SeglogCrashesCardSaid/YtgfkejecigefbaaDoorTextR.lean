
/- How a [][]byte that came in is opened. -/
import Derived.Test.YtgfkejecigefbaaDoorTextA
import Derived.Deep.Matrix
namespace Go.Proofs.YtgfkejecigefbaaDoor
open Go.RowKit
set_option linter.unusedVariables false

theorem Sls.opened {W : World} {a : Addr} {base len cap : Nat} {A : Nat → Option Addr} {L C : Nat → Nat} {Z : Nat → List Int} (hl : len ≤ cap) (hm : cap ≤ maxLen)
    (hrow : ∀ r, r < cap → W.cell? (a.add r) = some (.slice (A r) (L r) (C r)) ∧ L r ≤ C r ∧ C r ≤ maxLen ∧ (Z r).length = C r ∧ (∀ n ∈ Z r, (Lit.int .u8 n).wf = true) ∧ (A r = none → C r = 0) ∧
      ∀ a', A r = some a' → base ≤ a'.block ∧ ∀ c, c < C r → W.cell? (a'.add c) = some (.int .u8 ((Z r).getD c 0))) :
    Sls W (.slice (some a) len cap) ((List.range len).map fun r => (Z r).take (L r)) := by
  refine ⟨(List.range len).map fun r => .slice (A r) (L r) (C r), ?_, by simp, fun i u bs hu hp => ?_⟩
  · have hlen : ((List.range len).map fun r => Value.slice (A r) (L r) (C r)).length = len := by simp
    refine ⟨some a, cap, by rw [hlen], by rw [hlen]; exact hl, hm, fun hp => ?_⟩
    rw [hlen] at hp
    obtain ⟨b, off, spot⟩ := a
    have h0 := (hrow 0 (by omega)).1
    have hspot : spot = none := by simpa [Addr.add] using World.cell?_spot h0
    subst hspot
    refine ⟨b, off, rfl, ?_, fun j u hu => ?_⟩
    · rcases Nat.lt_or_ge b W.heap.size with h | h
      · exact h
      · simp [Addr.add, World.cell?, Array.getElem?_eq_none h] at h0
    · have hj : j < len := by
        rcases Nat.lt_or_ge j len with h | h
        · exact h
        · rw [List.getElem?_eq_none (by omega)] at hu; cases hu
      rw [List.getElem?_map, List.getElem?_range hj] at hu
      simp only [Option.map_some, Option.some.injEq] at hu
      subst hu
      have h1 := (hrow j (by omega)).1
      have e : (⟨b, off, none⟩ : Addr).add j = ⟨b, off + j, none⟩ := by
        simp only [Addr.add]; split <;> simp_all
      rw [e] at h1
      exact h1
  · have hi : i < len := by
      rcases Nat.lt_or_ge i len with h | h
      · exact h
      · rw [List.getElem?_eq_none (by simpa using h)] at hu; cases hu
    rw [List.getElem?_map, List.getElem?_range hi] at hu hp
    simp only [Option.map_some, Option.some.injEq] at hu hp
    subst hu hp
    obtain ⟨_, h1, h2, h3, _, h5, h6⟩ := hrow i (by omega)
    cases hA : A i with
    | none =>
      have hc := h5 hA
      have hz : Z i = [] := List.length_eq_zero_iff.1 (by omega)
      rw [hz, hc, show L i = 0 by omega]
      exact Sl.nil W
    | some a' => exact Sl.opened h1 h2 h3 (fun c hc => (h6 a' hA).2 c (by omega))

theorem opened_isB {W : World} {a : Addr} {base len cap : Nat} {A : Nat → Option Addr} {L C : Nat → Nat} {Z : Nat → List Int} (hl : len ≤ cap)
    (hrow : ∀ r, r < cap → W.cell? (a.add r) = some (.slice (A r) (L r) (C r)) ∧ L r ≤ C r ∧ C r ≤ maxLen ∧ (Z r).length = C r ∧ (∀ n ∈ Z r, (Lit.int .u8 n).wf = true) ∧ (A r = none → C r = 0) ∧
      ∀ a', A r = some a' → base ≤ a'.block ∧ ∀ c, c < C r → W.cell? (a'.add c) = some (.int .u8 ((Z r).getD c 0))) :
    ∀ p ∈ (List.range len).map (fun r => (Z r).take (L r)), ∀ n ∈ p, (Lit.int .u8 n).wf = true := by
  intro p hp n hn
  obtain ⟨r, hr, rfl⟩ := List.mem_map.1 hp
  have hr : r < len := by simpa using hr
  exact (hrow r (by omega)).2.2.2.2.1 n (List.mem_of_mem_take hn)

end Go.Proofs.YtgfkejecigefbaaDoor
