/- An append of one sector to a row of sectors of the call's own. -/
import Derived.Test.YteaimjfpmacgeaaDvW
import Derived.Deep.RegionLaw
namespace Go.Proofs.Yteaimjfpmacgeaa
open Go.RowKit
set_option linter.unusedVariables false

theorem rowCells_snoc : ∀ (l : List Sec) (s : Sec), rowCells (l ++ [s]) = rowCells l ++ secCells s
  | [], s => by simp [rowCells]
  | t :: l, s => by rw [List.cons_append, rowCells, rowCells_snoc l s, rowCells, List.append_assoc]
theorem secCells_one (s : Sec) : ∀ u ∈ secCells s, u.oneCell' = true := by
  intro u hu
  rcases List.mem_append.1 hu with hu | hu
  · obtain ⟨x, _, rfl⟩ := List.mem_map.1 hu; rfl
  · rcases List.mem_append.1 hu with hu | hu
    · obtain ⟨x, _, rfl⟩ := List.mem_map.1 hu; rfl
    · obtain rfl : u = Value.bool s.waits := by simpa using hu
      rfl
/-- A row of sectors of the call's own. -/
def SOwn (w : World) (base : Nat) (v : Value) (l : List Sec) : Prop := w.ownsRow base 81 129 v l.length (rowCells l)
theorem step_append_sec {w : World} {ops : Array Oper} {o : Oper} {a : Act} {K : Act → World → Prop} {Q : Exit → Act → World → Prop} {E : Prop} (hgd : o.guard = none) (s x : Operand)
    (ho : o.op = .call { callee := .builtin .append, args := #[s, x], argTypes := #[45, 45] })
    (base : Nat) (v : Value) (l : List Sec) (hs : a.eval s = v) (hown : SOwn w base v l)
    (b : Nat) (hx : a.eval x = .slice (some ⟨b, 0, none⟩) 1 1) (t : Sec) (ht : t.now.length = 64 ∧ t.kept.length = 64) (hc : ∀ (j : Nat) (u : Value), (secCells t)[j]? = some u → w.cell? ⟨b, j, none⟩ = some u) (hl : l.length ≤ 16384) (hbase : base ≤ w.heap.size)
    (h : ∀ v' w', SOwn w' base v' (l ++ [t]) → w.grownBy w' v.ownBlock → K (a.put o.dst v') w') : if Region.wanted o (yielded ops a.tmps) = true then Oper.wp Try.prog o a w K Q else E := by
  have hi : ∃ i0, Try.prog.info? 81 = some i0 ∧ i0.zero = some (.agg zeroSC) ∧ i0.size = 129 ∧ i0.bytes = 129 := info_parts infoSec
  obtain ⟨i0, hi, hz0, hz1, hz2⟩ := hi
  obtain ⟨v', w', hrun, hown', hg, _⟩ := run_append_own (P := Try.prog) w base 45 o.type 81 i0 (.agg zeroSC) 129 129 Try.underlying45 hi hz0 hz1 hz2 rfl (by decide) v l.length (rowCells l) hown ⟨b, 0, none⟩ 1 1 (secCells t) (by rw [secCells_len ht])
    (fun j u hj => by rw [add_plain0, Nat.zero_add]; exact hc j u hj) (secCells_one t) (by unfold maxLen; omega) (by omega) hbase
  have hw : Region.wanted o (yielded ops a.tmps) = true := by simp [Region.wanted, hgd]
  rw [if_pos hw]
  unfold Oper.wp
  simp [execOp, ho, resolve, invoke, builtin, hs, hx, hrun, Result.andThen]
  refine h v' w' ?_ hg
  unfold SOwn
  rw [rowCells_snoc, List.length_append]
  exact hown'

end Go.Proofs.Yteaimjfpmacgeaa
