
/- A region that draws its order, by an INVARIANT: what holds when a set of its operations has come up. Each operation is shown once, whatever the order. -/
import Derived.Orders
import Derived.NoCompiler
namespace Go.Proofs.YtgfkejecigefbaaDoor
open Go
set_option linter.unusedVariables false

section
variable {P : Program} {ops : Array Oper} {Q : Exit → Act → World → Prop} {md : Region.Mode}

theorem getD_any {l : Array Bool} {i : Nat} (h : i < l.size) (d e : Bool) : l.getD i d = l.getD i e := by
  rw [Array.getD_eq_getD_getElem?, Array.getD_eq_getD_getElem?, Array.getElem?_eq_getElem h]; rfl
theorem getD_fun {l : Array Bool} {i : Nat} (h : i < l.size) : (fun j => (l.setIfInBounds i true).getD j false) = fun j => if j = i then true else l.getD j false := by
  funext j
  rw [Array.getD_eq_getD_getElem?, Array.getD_eq_getD_getElem?]
  by_cases e : j = i
  · subst e; rw [if_pos rfl, Array.getElem?_setIfInBounds_self_of_lt h]; rfl
  · rw [if_neg e, Array.getElem?_setIfInBounds_ne (fun q => e q.symm)]
theorem left_lt {l : Array Bool} {i : Nat} (h : l.getD i true = false) : (l.setIfInBounds i true).toList.count false < l.toList.count false := by
  have hi : i < l.size := by
    rcases Nat.lt_or_ge i l.size with q | q
    · exact q
    · rw [Array.getD_eq_getD_getElem?, Array.getElem?_eq_none q] at h; cases h
  have hv : l.toList[i]'(by simpa using hi) = false := by
    rw [Array.getD_eq_getD_getElem?, Array.getElem?_eq_getElem hi] at h; simpa using h
  have hil : i < l.toList.length := by simpa using hi
  have hm : 0 < l.toList.count false := List.count_pos_iff.2 (by rw [← hv]; exact List.getElem_mem hil)
  rw [Array.toList_setIfInBounds, List.count_set hil, hv]
  show l.toList.count false - 1 + 0 < l.toList.count false
  omega
theorem ready_all {listed : Array Bool} (hw : ∀ (i : Nat) (o : Oper), ops[i]? = some o → ∀ e ∈ o.after, Region.binds md e = true → e.on < i) (hs : listed.size = ops.size)
    (hr : Region.ready md ops listed = []) : ∀ i, i < ops.size → listed.getD i false = true := by
  intro i
  induction i using Nat.strongRecOn with
  | _ i ih =>
    intro hi
    cases hv : listed.getD i false with
    | true => rfl
    | false =>
      exfalso
      have hm : i ∈ Region.ready md ops listed := mem_ready.2 ⟨(getD_any (by omega) true false).trans hv, ops[i], Array.getElem?_eq_getElem hi, fun e he hb => by
        have := hw i _ (Array.getElem?_eq_getElem hi) e he hb
        exact ih _ this (by omega)⟩
      rw [hr] at hm; cases hm
theorem wpAny_inv (I : (Nat → Bool) → Act → World → Prop) (hw : ∀ (i : Nat) (o : Oper), ops[i]? = some o → ∀ e ∈ o.after, Region.binds md e = true → e.on < i)
    (hstep : ∀ (D : Nat → Bool) a w i o, I D a w → D i = false → ops[i]? = some o → (∀ e ∈ o.after, Region.binds md e = true → D e.on = true) → wpOp P ops Q i (fun a' w' => I (fun j => if j = i then true else D j) a' w') a w)
    (hend : ∀ (D : Nat → Bool) a w, I D a w → (∀ i, i < ops.size → D i = true) → Q .normal a w) :
    ∀ (fuel : Nat) (listed : Array Bool) (a : Act) (w : World), listed.size = ops.size → listed.toList.count false ≤ fuel → I (fun j => listed.getD j false) a w → wpAny P md ops Q fuel listed a w
  | 0, listed, a, w, hs, hf, hI => by
    have hall : ∀ i, i < ops.size → listed.getD i false = true := fun i hi => by
      cases hv : listed.getD i false with
      | true => rfl
      | false => have := left_lt ((getD_any (by omega) true false).trans hv); omega
    refine ⟨?_, hend _ _ _ hI hall⟩
    cases hr : Region.ready md ops listed with
    | nil => rfl
    | cons i r =>
      have hm : i ∈ Region.ready md ops listed := by rw [hr]; exact List.mem_cons_self ..
      obtain ⟨h1, o, h2, _⟩ := mem_ready.1 hm
      have := left_lt h1
      omega
  | fuel + 1, listed, a, w, hs, hf, hI => by
    refine ⟨fun hr => hend _ _ _ hI (ready_all hw hs hr), fun i hi => ?_⟩
    obtain ⟨h1, o, h2, h3⟩ := mem_ready.1 hi
    have hil : i < listed.size := by have := (Array.getElem?_eq_some_iff.1 h2).1; omega
    refine wpOp_mono (fun a' w' h' => ?_) (hstep _ a w i o hI ((getD_any hil false true).trans h1) h2 h3)
    have hlt := left_lt h1
    refine wpAny_inv I hw hstep hend fuel _ a' w' (by rw [Array.size_setIfInBounds]; exact hs) (by omega) ?_
    rw [getD_fun hil]; exact h'
theorem wp_region_inv {id : Nat} {a : Act} {w : World} (I : (Nat → Bool) → Act → World → Prop) (hm : P.follows .mixedOrders = true)
    (hw : ∀ (i : Nat) (o : Oper), ops[i]? = some o → ∀ e ∈ o.after, Region.binds .any e = true → e.on < i)
    (h0 : I (fun _ => false) a w.drew)
    (hstep : ∀ (D : Nat → Bool) a w i o, I D a w → D i = false → ops[i]? = some o → (∀ e ∈ o.after, Region.binds .any e = true → D e.on = true) → wpOp P ops Q i (fun a' w' => I (fun j => if j = i then true else D j) a' w') a w)
    (hend : ∀ (D : Nat → Bool) a w, I D a w → (∀ i, i < ops.size → D i = true) → Q .normal a w) : (Code.region id ops true).wp P Q a w := by
  refine wp_region_any hm (wpAny_inv I hw hstep hend _ _ _ _ (by simp) (by simp) ?_)
  have e : (fun j => (Array.replicate ops.size false).getD j false) = fun _ => false := by
    funext j
    rw [Array.getD_eq_getD_getElem?, Array.getElem?_replicate]
    split <;> rfl
  rw [e]
  exact h0
/-- The operations that must come up ahead of this one. -/
def needs (ops : Array Oper) (i : Nat) : List Nat := ((ops[i]?).map fun o => (o.after.toList.filter fun e => Region.binds .any e).map fun e => e.on).getD []
theorem needs_mem {ops : Array Oper} {i : Nat} {o : Oper} (ho : ops[i]? = some o) {j : Nat} (hj : j ∈ needs ops i) : ∃ e ∈ o.after, Region.binds .any e = true ∧ e.on = j := by
  unfold needs at hj
  rw [ho] at hj
  obtain ⟨e, he, rfl⟩ := List.mem_map.1 (show j ∈ (o.after.toList.filter fun e => Region.binds .any e).map fun e => e.on from hj)
  obtain ⟨h1, h2⟩ := List.mem_filter.1 he
  exact ⟨e, by simpa using h1, h2, rfl⟩
theorem needs_of {ops : Array Oper} {i : Nat} {o : Oper} (ho : ops[i]? = some o) {e : _} (he : e ∈ o.after) (hb : Region.binds .any e = true) : e.on ∈ needs ops i := by
  unfold needs
  rw [ho]
  exact List.mem_map.2 ⟨e, List.mem_filter.2 ⟨by simpa using he, hb⟩, rfl⟩
def wfOps (ops : Array Oper) : Bool := (List.range ops.size).all fun i => (needs ops i).all fun j => decide (j < i)
def D1 (D : Nat → Bool) (i : Nat) : Nat → Bool := fun j => if j = i then true else D j
theorem wp_region_inv2 {id : Nat} {a : Act} {w : World} (I : (Nat → Bool) → Act → World → Prop) (hm : P.follows .mixedOrders = true) (hw : wfOps ops = true)
    (h0 : I (fun _ => false) a w.drew)
    (hstep : ∀ (D : Nat → Bool) a w i, i < ops.size → I D a w → D i = false → (∀ k j, D k = true → j ∈ needs ops k → D j = true) → (∀ j ∈ needs ops i, D j = true) → wpOp P ops Q i (fun a' w' => I (D1 D i) a' w') a w)
    (hend : ∀ (D : Nat → Bool) a w, I D a w → (∀ i, i < ops.size → D i = true) → Q .normal a w) : (Code.region id ops true).wp P Q a w := by
  refine wp_region_inv (fun D a w => I D a w ∧ ∀ k j, D k = true → j ∈ needs ops k → D j = true) hm ?_ ⟨h0, fun k j h => by cases h⟩ ?_ (fun D a w h => hend D a w h.1)
  · intro i o ho e he hb
    have hi : i < ops.size := (Array.getElem?_eq_some_iff.1 ho).1
    have := List.all_eq_true.1 hw i (List.mem_range.2 hi)
    exact of_decide_eq_true (List.all_eq_true.1 this _ (needs_of ho he hb))
  · intro D a w i o hI hD ho he
    have hi : i < ops.size := (Array.getElem?_eq_some_iff.1 ho).1
    have hn : ∀ j ∈ needs ops i, D j = true := fun j hj => by
      obtain ⟨e, h1, h2, rfl⟩ := needs_mem ho hj
      exact he e h1 h2
    refine wpOp_mono (fun a' w' h' => ⟨h', fun k j hk hj => ?_⟩) (hstep D a w i hi hI.1 hD hI.2 hn)
    by_cases e : j = i
    · simp [e]
    · have : (if j = i then true else D j) = D j := if_neg e
      show (if j = i then true else D j) = true
      rw [this]
      by_cases ek : k = i
      · subst ek; exact hn j hj
      · have hk' : (if k = i then true else D k) = true := hk
        rw [if_neg ek] at hk'
        exact hI.2 k j hk' hj
theorem wpOp_plain {i : Nat} {o : Oper} {K : Act → World → Prop} {a : Act} {w : World} (ho : ops[i]? = some o) (hg : o.guard = none) (h : Oper.wp P o a w K Q) : wpOp P ops Q i K a w := by
  unfold wpOp
  rw [ho]
  show if Region.wanted o (yielded ops a.tmps) = true then _ else _
  rw [if_pos (by simp [Region.wanted, hg])]
  exact Or.inl h
theorem wpOp_step {i : Nat} {o : Oper} {K : Act → World → Prop} {a : Act} {w : World} (ho : ops[i]? = some o) (hg : o.guard = none) (h : if Region.wanted o (yielded ops a.tmps) = true then Oper.wp P o a w K Q else True) : wpOp P ops Q i K a w := by
  rw [if_pos (by simp [Region.wanted, hg])] at h
  exact wpOp_plain ho hg h
/-- A function on slots, turned at one. -/
def upd (u : Nat → Value) (s : Nat) (v : Value) : Nat → Value := fun k => if k = s then v else u k
end

end Go.Proofs.YtgfkejecigefbaaDoor
