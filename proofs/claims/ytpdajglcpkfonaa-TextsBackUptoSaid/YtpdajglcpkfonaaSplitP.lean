/- Plain laws of a text taken apart. -/
import Derived.Test.YtpdajglcpkfonaaTextB1
namespace Go.Proofs.Ytpdajglcpkfonaa
open Go.RowKit
set_option linter.unusedVariables false

/-- The parts of what stands behind a tag. -/
def spl : List Int → Option (List (List Int))
  | [] => some []
  | [_] => none
  | a :: b :: r => if r.length < (a * 256 + b).toNat then none else (spl (r.drop (a * 256 + b).toNat)).map (r.take (a * 256 + b).toNat :: ·)
termination_by l => l.length
decreasing_by simp; omega

theorem spl_nil : spl [] = some [] := by rw [spl]
theorem spl_one (a : Int) : spl [a] = none := by rw [spl]
theorem spl_bad (a b : Int) (r : List Int) (h : r.length < (a * 256 + b).toNat) : spl (a :: b :: r) = none := by rw [spl, if_pos h]
theorem spl_go (a b : Int) (r : List Int) (h : ¬ r.length < (a * 256 + b).toNat) : spl (a :: b :: r) = (spl (r.drop (a * 256 + b).toNat)).map (r.take (a * 256 + b).toNat :: ·) := by rw [spl, if_neg h]

def tagS : List Int → Int
  | [] => 0
  | t :: r => if (spl r).isSome then t else 0
def partsS : List Int → List (List Int)
  | [] => []
  | _ :: r => (spl r).getD []
def codeS : List Int → Int
  | [] => 3
  | _ :: r => if (spl r).isSome then 0 else 3

/-- What was made of parts is taken apart into them. -/
theorem spl_flat : ∀ (ps : List (List Int)), (∀ p ∈ ps, p.length ≤ 65535) → spl (ps.flatMap fun p => (p.length : Int) / 256 % 256 :: (p.length : Int) % 256 :: p) = some ps
  | [], _ => by rw [List.flatMap_nil, spl_nil]
  | p :: ps, h => by
    have hp := h p (by simp)
    have hn : ((p.length : Int) / 256 % 256 * 256 + (p.length : Int) % 256).toNat = p.length := by omega
    rw [List.flatMap_cons, List.cons_append, List.cons_append, spl_go _ _ _ (by rw [hn, List.length_append]; omega), hn, List.drop_left, List.take_left, spl_flat ps (fun q hq => h q (by simp [hq]))]
    rfl

/-- What was taken apart is made of its parts. -/
theorem flat_spl : ∀ (l : List Int) (ps : List (List Int)), IsB l → spl l = some ps → (ps.flatMap fun p => (p.length : Int) / 256 % 256 :: (p.length : Int) % 256 :: p) = l ∧ ∀ p ∈ ps, p.length ≤ 65535 ∧ IsB p := by
  intro l
  induction hn : l.length using Nat.strongRecOn generalizing l with
  | _ n ih =>
    intro ps hB h
    match l, hn, hB, h with
    | [], _, _, h =>
      rw [spl_nil] at h; cases h; simp
    | [a], _, _, h => rw [spl_one] at h; cases h
    | a :: b :: r, hn, hB, h =>
      have ha := hB a (by simp)
      have hb := hB b (by simp)
      by_cases hl : r.length < (a * 256 + b).toNat
      · rw [spl_bad a b r hl] at h; cases h
      · rw [spl_go a b r hl] at h
        obtain ⟨qs, hq, rfl⟩ := Option.map_eq_some_iff.1 h
        have hlen : (r.drop (a * 256 + b).toNat).length < n := by rw [← hn]; simp; omega
        obtain ⟨e1, e2⟩ := ih _ hlen (r.drop (a * 256 + b).toNat) rfl qs (fun x hx => hB x (by simp [List.mem_of_mem_drop hx])) hq
        have ht : (r.take (a * 256 + b).toNat).length = (a * 256 + b).toNat := by rw [List.length_take]; omega
        refine ⟨?_, fun p hp => ?_⟩
        · rw [List.flatMap_cons, e1, ht]
          have c1 : ((a * 256 + b).toNat : Int) / 256 % 256 = a := by omega
          have c2 : ((a * 256 + b).toNat : Int) % 256 = b := by omega
          rw [c1, c2, List.cons_append, List.cons_append, List.take_append_drop]
        · rcases List.mem_cons.1 hp with rfl | hp
          · exact ⟨by rw [ht]; omega, fun x hx => hB x (by simp [List.mem_of_mem_take hx])⟩
          · exact e2 p hp

end Go.Proofs.Ytpdajglcpkfonaa
