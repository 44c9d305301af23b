
/- An append of a slice that is read, to a slice of the call's own. Conditions: none. -/
import Derived.Test.YtgfkejecigefbaaDoorLib2
namespace Go.Proofs.YtgfkejecigefbaaDoor
open Go.RowKit
set_option linter.unusedVariables false

theorem wpList_append_sl {P : Program} {w : World} {ops : Array Oper} {rest : List Oper} {o : Oper} {a : Act} {Q : Exit → Act → World → Prop} (hgd : o.guard = none) (s x : Operand) (t : TypeId)
    (ho : o.op = .call { callee := .builtin .append, args := #[s, x], argTypes := #[t, t] })
    (base : Nat) (e : TypeId) (i : TypeInfo) (z : Value) (bytes : Nat) (ht : P.underlying t = some (.slice e)) (hi : P.info? e = some i) (hz : i.zero = some z)
    (hsize : i.size = 1) (hby : i.bytes = bytes) (hzs : z.cells.size = 1)
    (v : Value) (n : Nat) (xs : List Value) (hs : a.eval s = v) (hown : w.ownsRow base e 1 v n xs)
    (u : Value) (ys : List Value) (hx : a.eval x = u) (hsl : Sl w u ys) (h1 : ∀ u ∈ ys, u.oneCell' = true)
    (h63 : n + ys.length ≤ maxLen) (hbytes : (n + ys.length) * bytes ≤ 140737488355328) (hbase : base ≤ w.heap.size)
    (h : ∀ v' w', w'.ownsRow base e 1 v' (n + ys.length) (xs ++ ys) → w.grownBy w' v.ownBlock → wpList P ops Q rest (a.put o.dst v') w') : wpList P ops Q (o :: rest) a w := by
  obtain ⟨ad, cap, rfl, hlc, hcm, hc⟩ := hsl
  cases ad with
  | some ad =>
    refine wpList_append_own w hgd s x t ho base e i z 1 bytes ht hi hz hsize hby hzs (by decide) v n xs hs hown ad ys.length cap ys hx (by omega) ?_ h1 h63 hbytes hbase (fun v' w' h2 h3 _ => h v' w' h2 h3)
    intro j u hu
    have hj : 0 < ys.length := by
      rcases Nat.lt_or_ge j ys.length with hlt | hge
      · omega
      · rw [List.getElem?_eq_none hge] at hu; cases hu
    obtain ⟨b, off, hab, hlt, hcell⟩ := hc hj
    cases hab
    rw [add_plain0]
    exact hcell j u hu
  | none =>
    have hl0 : ys.length = 0 := by
      rcases Nat.eq_zero_or_pos ys.length with h0 | h0
      · exact h0
      · obtain ⟨b, off, hab, _⟩ := hc h0; cases hab
    obtain rfl : ys = [] := List.length_eq_zero_iff.1 hl0
    have hrun : (Builtin.append_ #[t, t] o.type #[v, .slice none 0 cap]).run P w = .ok v w := by
      rcases hown.2 with ⟨rfl, rfl⟩ | ⟨g, cap', cur, rfl, _, _, hnc, _⟩
      · simp [Builtin.append_, run_underlying ht, sizeOf, typeInfo, hi, Builtin.lenOf, Builtin.firstCells]
      · simp [Builtin.append_, run_underlying ht, sizeOf, typeInfo, hi, Builtin.lenOf, Builtin.firstCells, hnc, storeCells]
    refine wpList_plain hgd fun K hK => ?_
    unfold Oper.wp
    simp [execOp, ho, resolve, invoke, builtin, hs, hx, hrun, Result.andThen]
    exact hK _ _ (h v w (by simpa using hown) ⟨rfl, rfl, rfl, Nat.le_refl _, fun _ _ _ => rfl⟩)

/-- Behind an append to a slice of the call's own. -/
theorem below_grown {B base : Nat} {w0 w1 w' : World} {e : TypeId} {size : Nat} {v : Value} {n : Nat} {xs : List Value} (hb : Below B w0 w1) (hown : w1.ownsRow base e size v n xs) (hB : B ≤ base) (hs : B ≤ w1.heap.size)
    (hg : w1.grownBy w' v.ownBlock) : Below B w0 w' :=
  hb.grown hg hs (fun k hk => by have := (hown.lt k hk).1; omega)

theorem Sl.litL (w : World) (cs : List Value) (t : TypeId) (hm : cs.length ≤ maxLen) : Sl (w.alloc (.cells cs.toArray t)) (.slice (some ⟨w.heap.size, 0, none⟩) cs.length cs.length) cs := by
  have := Sl.lit w cs.toArray t (by simpa using hm)
  simpa using this

end Go.Proofs.YtgfkejecigefbaaDoor
