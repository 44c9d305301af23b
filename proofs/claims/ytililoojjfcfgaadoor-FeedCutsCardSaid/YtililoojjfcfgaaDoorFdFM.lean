/- Lists of lists of texts, where boxes of numbers and things that are no cells turn. Conditions: none. -/
import Derived.Test.YtililoojjfcfgaaDoorFcD
import Derived.Test.YtililoojjfcfgaaDoorFcE
import Derived.Test.YtililoojjfcfgaaDoorInvIn
namespace Go.Proofs.YtililoojjfcfgaaDoor
open Go.RowKit
set_option linter.unusedVariables false

/-- A block that holds a number alone, or no cells. -/
def PlainB (w : World) (k : Nat) : Prop := (∃ n : Int, Boxed w k 3 (.int .i64 n)) ∨ ∃ o : Obj, w.heap[k]? = some o ∧ o.isCells = false
theorem PlainB.typed {w : World} {k : Nat} (h : PlainB w k) {cur : Array Value} {t : TypeId} {fr : Nat × Nat} (hk : w.heap[k]? = some (.cells cur t fr)) : t = 3 := by
  rcases h with ⟨n, hb⟩ | ⟨o, ho, hc⟩
  · rw [show w.heap[k]? = _ from hb] at hk; cases hk; rfl
  · rw [ho] at hk; cases hk; cases hc
theorem PlainB.noByte {w : World} {k : Nat} (h : PlainB w k) (j : Nat) (n : Int) : w.cell? ⟨k, j, none⟩ ≠ some (.int .u8 n) := by
  rcases h with ⟨m, hb⟩ | ⟨o, ho, hc⟩
  · intro e
    rw [cell_of_row w k j #[.int .i64 m] _ _ hb] at e
    cases j with
    | zero => simp at e
    | succ j => simp at e
  · intro e
    simp only [World.cell?, ho] at e
    cases o <;> simp_all [Obj.isCells]
theorem Sl.turns {w w' : World} {cs : List Nat} {v : Value} {bs : List Int} (h : Sl w v (bs.map (Value.int .u8))) (ht : Turns cs w w') (hp : ∀ k ∈ cs, PlainB w k) : Sl w' v (bs.map (Value.int .u8)) := by
  obtain ⟨a, cap, rfl, h1, h2, h3⟩ := h
  refine ⟨a, cap, rfl, h1, h2, fun hp' => ?_⟩
  obtain ⟨b, off, rfl, hlt, hc⟩ := h3 hp'
  have hn : b ∉ cs := fun hm => by
    have hl : 0 < bs.length := by simpa using hp'
    have h0 := hc 0 (.int .u8 bs[0]) (by rw [List.getElem?_map, List.getElem?_eq_getElem hl]; rfl)
    exact (hp b hm).noByte _ _ h0
  exact ⟨b, off, rfl, Nat.lt_of_lt_of_le hlt ht.size, fun j u hu => (World.cell?_of_block (ht.block b hlt hn)).trans (hc j u hu)⟩
theorem SlAll.turns {w w' : World} {cs : List Nat} (ht : Turns cs w w') (hp : ∀ k ∈ cs, PlainB w k) : ∀ {us : List Value} {ps : List (List Int)}, SlAll w us ps → SlAll w' us ps
  | [], [], _ => trivial
  | [], _ :: _, h => h.elim
  | _ :: _, [], h => h.elim
  | _ :: _, _ :: _, h => ⟨Sl.turns h.1 ht hp, SlAll.turns ht hp h.2⟩
theorem OwnK.turns {w w' : World} {cs : List Nat} {base : Nat} {e : TypeId} {size : Nat} {v : Value} {n : Nat} {xs : List Value} (h : OwnK w base e size v n xs) (ht : Turns cs w w') (hp : ∀ k ∈ cs, PlainB w k) (he : e ≠ 3) : OwnK w' base e size v n xs := by
  have hn : ∀ g, v.ownBlock = some g → g ∉ cs := fun g hg hm => by
    obtain ⟨cur, hc, _⟩ := h.2 g hg
    exact he ((hp g hm).typed hc)
  refine ⟨owns_turns ht h.1 hn, fun g hg => ?_⟩
  obtain ⟨cur, hc, hb⟩ := h.2 g hg
  exact ⟨cur, ht.heap hc (hn g hg), hb⟩
theorem OSls.turns {w w' : World} {cs : List Nat} {base : Nat} {v : Value} {pss : List (List Int)} (h : OSls w base v pss) (ht : Turns cs w w') (hp : ∀ k ∈ cs, PlainB w k) : OSls w' base v pss := by
  obtain ⟨vs, h1, h2⟩ := h
  exact ⟨vs, h1.turns ht hp (by decide), h2.turns ht hp⟩
theorem OLv.turns {w w' : World} {cs : List Nat} {base : Nat} {v : Value} {ll : List (List (List Int))} (h : OLv w base v ll) (ht : Turns cs w w') (hp : ∀ k ∈ cs, PlainB w k) : OLv w' base v ll := by
  obtain ⟨vs, h1, h2⟩ := h
  exact ⟨vs, h1.turns ht hp (by decide), h2.mono fun u l hu => hu.turns ht hp⟩
/-- Where the box that holds such a list turns. -/
theorem OLv.boxed {w : World} {base : Nat} {v : Value} {ll : List (List (List Int))} (h : OLv w base v ll) {B : Nat} {u x : Value} (hb : Boxed w B 38 u) (hu : ∀ n : Int, u ≠ .int .u8 n) : OLv (w.setCell ⟨B, 0, none⟩ x) base v ll :=
  h.keepGk (g := B) (t := 38) (cs := #[u]) hb (by decide) (by decide) (fun j n e => by cases j with | zero => exact hu n (by simpa using e) | succ j => simp at e) (grownBy_setCell' w B x)

theorem step_append_level {w : World} {ops : Array Oper} {o : Oper} {a : Act} {K : Act → World → Prop} {Q : Exit → Act → World → Prop} {E : Prop} (hgd : o.guard = none) (s x : Operand)
    (ho : o.op = .call { callee := .builtin .append, args := #[s, x], argTypes := #[38, 38] })
    (base : Nat) (v : Value) (ll : List (List (List Int))) (hs : a.eval s = v) (hown : OLv w base v ll)
    (b cap : Nat) (hx : a.eval x = .slice (some ⟨b, 0, none⟩) 1 cap) (u : Value) (hc : w.cell? ⟨b, 0, none⟩ = some u) (l : List (List Int)) (hu : OSls w 0 u l)
    (h63 : ll.length + 1 ≤ 5000000000000) (hbase : base ≤ w.heap.size)
    (h : ∀ v' w', OLv w' base v' (ll ++ [l]) → Below base w w' → w.grownBy w' v.ownBlock → K (a.put o.dst v') w') : if Region.wanted o (yielded ops a.tmps) = true then Oper.wp Tryd.prog o a w K Q else E := by
  have hw : Region.wanted o (yielded ops a.tmps) = true := by simp [Region.wanted, hgd]
  rw [if_pos hw]
  obtain ⟨vs, h1, h2⟩ := hown
  obtain ⟨i0, hi, hz0, hz1, hz2⟩ := info_parts infoL
  obtain ⟨ua, uc, rfl⟩ := hu.val
  obtain ⟨v', w', hrun, hown', hg⟩ := run_append_ownK (P := Tryd.prog) w base 38 o.type 23 i0 (.slice none 0 0) 1 24 Tryd.underlying38 hi hz0 hz1 hz2 rfl (by decide) (by intro c hc; simp [Value.cells] at hc; subst hc; exact notB_slice _ _ _) v ll.length vs h1 ⟨b, 0, none⟩ 1 cap [.slice ua l.length uc] rfl
    (fun j y hj => by
      match j, hj with
      | 0, hj => simp at hj; subst hj; exact hc
      | j + 1, hj => simp at hj) (by simp [Value.oneCell']) (by simp [notB_slice]) (by unfold maxLen; omega) (by omega) hbase
  unfold Oper.wp execOp
  simp only [ho, resolve, invoke, builtin, Sem.run_bind, Sem.run_pure, Result.andThen_ok, List.map_toArray, List.map_cons, List.map_nil, hs, hx, hrun]
  exact h v' w' ⟨_, by simpa using hown', (h2.mono fun u l hu => hu.keepR h1 (by decide) hg).snoc (hu.keepR h1 (by decide) hg)⟩ ((Below.refl _ _).grown hg hbase (fun k hk => (h1.1.lt k hk).1)) hg

theorem KeepsOthers.below {w w' : World} (h : Below w.heap.size w w') : KeepsOthers w w' := ⟨h.size, fun k o hk _ => (h.block k (Array.getElem?_eq_some_iff.1 hk).1).trans hk⟩
theorem KeepsOthers.ownK {w w' : World} {base : Nat} {e : TypeId} {size : Nat} {v : Value} {n : Nat} {xs : List Value} (h : OwnK w base e size v n xs) (hg : w.grownBy w' v.ownBlock) : KeepsOthers w w' :=
  KeepsOthers.of_grownBy hg fun j o ej hj => by
    obtain ⟨cur, hc, _⟩ := h.2 j ej
    rw [hc] at hj; cases hj; rfl

end Go.Proofs.YtililoojjfcfgaaDoor
