/- What the bound of the second form gives. Conditions: none. -/
import Derived.Test.YtpdajglcpkfonaaRows
import Derived.ChangeSlices
namespace Go.Proofs.Ytpdajglcpkfonaa.bulks
open Go.ChangeShapes Go.WideShapes

theorem ge_one {H : Type} (d : DataW H) : 1 ≤ Rows.uptoBulk d := by
  cases d <;> try simp [Rows.uptoBulk]
  rename_i l
  cases l <;> simp [Rows.uptoBulk]

theorem count {H : Type} : ∀ l : List (DataW H), l.length ≤ Rows.uptoBulkAll l
  | [] => by simp [Rows.uptoBulkAll]
  | d :: r => by
    have h1 := ge_one d
    have h2 := count r
    simp only [Rows.uptoBulkAll, List.length_cons]; omega

theorem all {H : Type} {l : List (DataW H)} (hk : Rows.uptoSmall H l = true) : Rows.uptoBulkAll l ≤ 1048576 := of_decide_eq_true hk

theorem lits_le {H : Type} {d : DataW H} {k : IntKind} {xs ys : List Int} (h : d = .slice (lits k xs) (lits k ys)) : xs.length ≤ Rows.uptoBulk d := by
  subst h
  have h1 := count (H := H) (lits k xs)
  have h2 : (lits (H := H) k xs).length = xs.length := by simp [lits]
  simp only [Rows.uptoBulk]
  omega

theorem part {H : Type} {d : DataW H} : ∀ {l : List (DataW H)}, d ∈ l → Rows.uptoBulk d ≤ Rows.uptoBulkAll l
  | [], h => by cases h
  | e :: r, h => by
    simp only [Rows.uptoBulkAll]
    rcases List.mem_cons.1 h with rfl | h
    · omega
    · have := part h; omega

theorem elem_le {H : Type} {d : DataW H} {l r : List (DataW H)} (h : d ∈ l) : Rows.uptoBulk d ≤ Rows.uptoBulkAll l + Rows.uptoBulkAll r + 1 := by
  have := part h; omega

end Go.Proofs.Ytpdajglcpkfonaa.bulks
