
/- A cut of a slice, 's[k:]', as one step: what is behind the cut reads as the rest. Conditions: none. -/
import Derived.Test.YtgfkejecigefbaaDoorLib2
import Derived.Test.YtgfkejecigefbaaDoorBytes
namespace Go.Proofs.YtgfkejecigefbaaDoor
open Go.RowKit
set_option linter.unusedVariables false

theorem wpList_from {P : Program} {w : World} {ops : Array Oper} {rest : List Oper} {o : Oper} {a : Act} {Q : Exit → Act → World → Prop} (hgd : o.guard = none) (s k : Operand) (t e : TypeId)
    (ho : o.op = .slice t s (some k) none none) (ht : P.underlying t = some (.slice e)) (hsz : (P.info? e).map (·.size) = some 1)
    (v : Value) (n : Nat) (xs : List Value) (hs : a.eval s = v) (hsl : Sl w v xs) (hk : a.eval k = .int .i64 n) (hn : n ≤ xs.length)
    (h : ∀ ad cap, Sl w (.slice ad (xs.length - n) cap) (xs.drop n) → wpList P ops Q rest (a.put o.dst (.slice ad (xs.length - n) cap)) w) : wpList P ops Q (o :: rest) a w := by
  obtain ⟨ad, cap, rfl, h1, h2, h3⟩ := hsl
  have hel : P.elem t = e := by simp [Program.elem, ht]
  have hd : Sl w (.slice (if cap = n then ad else ad.map (·.add n)) (xs.length - n) (cap - n)) (xs.drop n) := by
    have hl : (xs.drop n).length = xs.length - n := by simp
    refine ⟨_, cap - n, by rw [hl], by omega, by omega, fun hp => ?_⟩
    obtain ⟨b, off, rfl, hlt, hc⟩ := h3 (by omega)
    refine ⟨b, off + n, by rw [if_neg (by omega), Option.map_some, add_plain0], hlt, fun j u hu => ?_⟩
    rw [List.getElem?_drop] at hu
    have := hc _ u hu
    rwa [← Nat.add_assoc] at this
  have ht' : P.underlying t = some (.slice (P.elem t)) := by rw [hel]; exact ht
  obtain ⟨i, hi, hi1⟩ : ∃ i, P.info? e = some i ∧ i.size = 1 := by
    cases hq : P.info? e with
    | none => rw [hq] at hsz; cases hsz
    | some i => rw [hq] at hsz; exact ⟨i, rfl, by simpa using hsz⟩
  have hrun : (Instr.sliceAt t (.slice ad xs.length cap) (some (.int .i64 n)) none none).run P w = .ok (.slice (if cap = n then ad else ad.map (·.add n)) (xs.length - n) (cap - n)) w := by
    rw [run_sliceAt_slice _ _ _ _ _ _ ht', run_slice_l _ _ _ _ _ ht' _ _ (by omega) (by omega)]
    simp [sizeOf, typeInfo, hel, hi, hi1, sliced, Result.andThen]
  refine wpList_plain hgd fun K hK => ?_
  unfold Oper.wp
  simp [execOp, ho, hs, hk, hrun, Result.andThen]
  exact hK _ _ (h _ _ hd)

theorem wpList_part {P : Program} {w : World} {ops : Array Oper} {rest : List Oper} {o : Oper} {a : Act} {Q : Exit → Act → World → Prop} (hgd : o.guard = none) (s k l : Operand) (t e : TypeId)
    (ho : o.op = .slice t s (some k) (some l) none) (ht : P.underlying t = some (.slice e)) (hsz : (P.info? e).map (·.size) = some 1)
    (v : Value) (n m : Nat) (xs : List Value) (hs : a.eval s = v) (hsl : Sl w v xs) (hk : a.eval k = .int .i64 n) (hl : a.eval l = .int .i64 m) (hn : n ≤ m) (hm : m ≤ xs.length)
    (h : ∀ ad cap, Sl w (.slice ad (m - n) cap) ((xs.drop n).take (m - n)) → wpList P ops Q rest (a.put o.dst (.slice ad (m - n) cap)) w) : wpList P ops Q (o :: rest) a w := by
  obtain ⟨ad, cap, rfl, h1, h2, h3⟩ := hsl
  have hel : P.elem t = e := by simp [Program.elem, ht]
  have hd : Sl w (.slice (if cap = n then ad else ad.map (·.add n)) (m - n) (cap - n)) ((xs.drop n).take (m - n)) := by
    have hl : ((xs.drop n).take (m - n)).length = m - n := by simp; omega
    refine ⟨_, cap - n, by rw [hl], by omega, by omega, fun hp => ?_⟩
    obtain ⟨b, off, rfl, hlt, hc⟩ := h3 (by omega)
    refine ⟨b, off + n, by rw [if_neg (by omega), Option.map_some, add_plain0], hlt, fun j u hu => ?_⟩
    have hj : j < m - n := by
      rcases Nat.lt_or_ge j (m - n) with h | h
      · exact h
      · rw [List.getElem?_eq_none (by omega)] at hu; cases hu
    rw [List.getElem?_take, if_pos hj, List.getElem?_drop] at hu
    have := hc _ u hu
    rwa [← Nat.add_assoc] at this
  have ht' : P.underlying t = some (.slice (P.elem t)) := by rw [hel]; exact ht
  obtain ⟨i, hi, hi1⟩ : ∃ i, P.info? e = some i ∧ i.size = 1 := by
    cases hq : P.info? e with
    | none => rw [hq] at hsz; cases hsz
    | some i => rw [hq] at hsz; exact ⟨i, rfl, by simpa using hsz⟩
  have hrun : (Instr.sliceAt t (.slice ad xs.length cap) (some (.int .i64 n)) (some (.int .i64 m)) none).run P w = .ok (.slice (if cap = n then ad else ad.map (·.add n)) (m - n) (cap - n)) w := by
    rw [run_sliceAt_slice _ _ _ _ _ _ ht', run_slice_lh _ _ _ _ _ ht' _ _ _ _ (by omega) (by omega) (by omega)]
    simp [sizeOf, typeInfo, hel, hi, hi1, sliced, Result.andThen]
  refine wpList_plain hgd fun K hK => ?_
  unfold Oper.wp
  simp [execOp, ho, hs, hk, hl, hrun, Result.andThen]
  exact hK _ _ (h _ _ hd)

theorem wpList_upto3 {P : Program} {w : World} {ops : Array Oper} {rest : List Oper} {o : Oper} {a : Act} {Q : Exit → Act → World → Prop} (hgd : o.guard = none) (s k l : Operand) (t e : TypeId)
    (ho : o.op = .slice t s none (some k) (some l)) (ht : P.underlying t = some (.slice e)) (hsz : (P.info? e).map (·.size) = some 1)
    (v : Value) (n : Nat) (xs : List Value) (hs : a.eval s = v) (hsl : Sl w v xs) (hk : a.eval k = .int .i64 n) (hl : a.eval l = .int .i64 n) (hn : n ≤ xs.length)
    (h : ∀ ad, Sl w (.slice ad n n) (xs.take n) → wpList P ops Q rest (a.put o.dst (.slice ad n n)) w) : wpList P ops Q (o :: rest) a w := by
  obtain ⟨ad, cap, rfl, h1, h2, h3⟩ := hsl
  have hel : P.elem t = e := by simp [Program.elem, ht]
  have hd : Sl w (.slice (if n = 0 then ad else ad.map (·.add 0)) n n) (xs.take n) := by
    have hl : (xs.take n).length = n := by simp; omega
    refine ⟨_, n, by rw [hl], by omega, by omega, fun hp => ?_⟩
    obtain ⟨b, off, rfl, hlt, hc⟩ := h3 (by omega)
    refine ⟨b, off, by rw [if_neg (by omega), Option.map_some, add_plain0, Nat.add_zero], hlt, fun j u hu => ?_⟩
    have hj : j < n := by
      rcases Nat.lt_or_ge j n with h | h
      · exact h
      · rw [List.getElem?_eq_none (by omega)] at hu; cases hu
    rw [List.getElem?_take, if_pos hj] at hu
    exact hc _ u hu
  have ht' : P.underlying t = some (.slice (P.elem t)) := by rw [hel]; exact ht
  obtain ⟨i, hi, hi1⟩ : ∃ i, P.info? e = some i ∧ i.size = 1 := by
    cases hq : P.info? e with
    | none => rw [hq] at hsz; cases hsz
    | some i => rw [hq] at hsz; exact ⟨i, rfl, by simpa using hsz⟩
  have hrun : (Instr.sliceAt t (.slice ad xs.length cap) none (some (.int .i64 n)) (some (.int .i64 n))).run P w = .ok (.slice (if n = 0 then ad else ad.map (·.add 0)) n n) w := by
    rw [run_sliceAt_slice _ _ _ _ _ _ ht', run_slice_hm _ _ _ _ _ ht' _ _ _ _ (by omega) (by omega) (by omega)]
    simp [sizeOf, typeInfo, hel, hi, sliced, Result.andThen]
  refine wpList_plain hgd fun K hK => ?_
  unfold Oper.wp
  simp [execOp, ho, hs, hk, hl, hrun, Result.andThen]
  exact hK _ _ (h _ hd)

theorem size8 : (Tryd.prog.info? 5).map (·.size) = some 1 := by kernel_rfl

end Go.Proofs.YtgfkejecigefbaaDoor
