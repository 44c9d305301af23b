
/- A region that draws its order, in a round of a range over a function, by an invariant: each operation is shown once, as outside. -/
import Derived.Test.YtgfkejecigefbaaDoorInv
import Derived.RangeFuncCalls
import Derived.OrdersIn
import Derived.OwnWalkIn
namespace Go.Proofs.YtgfkejecigefbaaDoor
open Go
set_option linter.unusedVariables false

section
variable {P : Program} {ops : Array Oper} {Q : Exit → Act → World → Prop} {md : Region.Mode}

/-- What holds of an operation outside holds of it in a round. -/
theorem opIn_of_wp {o : Oper} {a : Act} {w : World} {K : Act → World → Prop} {l n : Nat} (hd : ∀ c, o.op ≠ .defer c) (h : o.wp P a w K Q) : o.wpIn (Fence.wide.inRound l) n P a w K Q := by
  refine ⟨fun _ _ => trivial, ?_⟩
  rw [Oper.semAt_plain _ _ _ hd]
  unfold Oper.wp at h
  generalize (execOp a.eval o).run P w = r at h ⊢
  cases r with
  | ok x w' =>
    cases x with
    | value v => exact h
    | skip => exact h
    | defer d => exact h
    | enter f args => exact ⟨(fun q => by cases q), CallsIn.inRound l (callsIn_wide.2 h)⟩
    | row r args => exact ⟨(fun q => by cases q), fun c cs _ => by obtain ⟨v, w2, r, s⟩ := h c cs; exact ⟨v, w2, r, stepsIn_wide.2 s⟩⟩
    | round l f t as b => exact h.elim
    | recover => exact h.elim
    | _ => exact h.elim
  | halt x w' => cases x <;> first | exact h | exact h.elim

def opW (P : Program) (ops : Array Oper) (Q : Exit → Act → World → Prop) (i : Nat) (K : Act → World → Prop) (a : Act) (w : World) : Prop :=
  match ops[i]? with
  | none => K a w
  | some o => if Region.wanted o (yielded ops a.tmps) = true then o.wp P a w K Q else K (a.put o.dst undef) w
theorem opW_in {i : Nat} {K : Act → World → Prop} {a : Act} {w : World} {l n : Nat} (hd : ∀ (i : Nat) (o : Oper), ops[i]? = some o → ∀ c, o.op ≠ .defer c) (h : opW P ops Q i K a w) : wpOpIn (Fence.wide.inRound l) n P ops Q i K a w := by
  unfold opW at h
  unfold wpOpIn
  cases ho : ops[i]? with
  | none => rw [ho] at h; exact h
  | some o =>
    rw [ho] at h
    simp only at h ⊢
    split
    · rename_i hw
      rw [if_pos hw] at h
      exact opIn_of_wp (hd i o ho) h
    · rename_i hw
      rw [if_neg hw] at h
      exact ⟨fun _ _ => trivial, h⟩
theorem opW_plain {i : Nat} {o : Oper} {K : Act → World → Prop} {a : Act} {w : World} (ho : ops[i]? = some o) (hg : o.guard = none) (h : Oper.wp P o a w K Q) : opW P ops Q i K a w := by
  unfold opW
  rw [ho]
  show if Region.wanted o (yielded ops a.tmps) = true then _ else _
  rw [if_pos (by simp [Region.wanted, hg])]
  exact h
theorem opW_step {i : Nat} {o : Oper} {K : Act → World → Prop} {a : Act} {w : World} (ho : ops[i]? = some o) (hg : o.guard = none) (h : if Region.wanted o (yielded ops a.tmps) = true then Oper.wp P o a w K Q else True) : opW P ops Q i K a w := by
  rw [if_pos (by simp [Region.wanted, hg])] at h
  exact opW_plain ho hg h

theorem wpAnyIn_inv {l n : Nat} (I : (Nat → Bool) → Act → World → Prop) (hw : ∀ (i : Nat) (o : Oper), ops[i]? = some o → ∀ e ∈ o.after, Region.binds md e = true → e.on < i)
    (hstep : ∀ (D : Nat → Bool) a w i o, I D a w → D i = false → ops[i]? = some o → (∀ e ∈ o.after, Region.binds md e = true → D e.on = true) → wpOpIn (Fence.wide.inRound l) n P ops Q i (fun a' w' => I (fun j => if j = i then true else D j) a' w') a w)
    (hend : ∀ (D : Nat → Bool) a w, I D a w → (∀ i, i < ops.size → D i = true) → Q .normal a w) :
    ∀ (fuel : Nat) (listed : Array Bool) (a : Act) (w : World), listed.size = ops.size → listed.toList.count false ≤ fuel → I (fun j => listed.getD j false) a w → wpAnyIn (Fence.wide.inRound l) n P md ops Q fuel listed a w
  | 0, listed, a, w, hs, hf, hI => by
    have hall : ∀ i, i < ops.size → listed.getD i false = true := fun i hi => by
      cases hv : listed.getD i false with
      | true => rfl
      | false => have := left_lt ((getD_any (by omega) true false).trans hv); omega
    refine ⟨?_, hend _ _ _ hI hall⟩
    cases hr : Region.ready md ops listed with
    | nil => rfl
    | cons i r =>
      have hm : i ∈ Region.ready md ops listed := by rw [hr]; exact List.mem_cons_self ..
      obtain ⟨h1, o, h2, _⟩ := mem_ready.1 hm
      have := left_lt h1
      omega
  | fuel + 1, listed, a, w, hs, hf, hI => by
    refine ⟨fun hr => hend _ _ _ hI (ready_all hw hs hr), fun i hi => ?_⟩
    obtain ⟨h1, o, h2, h3⟩ := mem_ready.1 hi
    have hil : i < listed.size := by have := (Array.getElem?_eq_some_iff.1 h2).1; omega
    refine wpOpIn_mono (fun a' w' h' => ?_) (hstep _ a w i o hI ((getD_any hil false true).trans h1) h2 h3)
    have hlt := left_lt h1
    refine wpAnyIn_inv I hw hstep hend fuel _ a' w' (by rw [Array.size_setIfInBounds]; exact hs) (by omega) ?_
    rw [getD_fun hil]; exact h'
theorem wpIn_region_inv2 {id : Nat} {a : Act} {w : World} {l n : Nat} (I : (Nat → Bool) → Act → World → Prop) (hm : P.follows .mixedOrders = true) (hw : wfOps ops = true) (hnd : ops.all (fun o => match o.op with | .defer _ => false | _ => true) = true)
    (h0 : I (fun _ => false) a w.drew)
    (hstep : ∀ (D : Nat → Bool) a w i, i < ops.size → I D a w → D i = false → (∀ k j, D k = true → j ∈ needs ops k → D j = true) → (∀ j ∈ needs ops i, D j = true) → opW P ops Q i (fun a' w' => I (D1 D i) a' w') a w)
    (hend : ∀ (D : Nat → Bool) a w, I D a w → (∀ i, i < ops.size → D i = true) → Q .normal a w) : (Code.region id ops true).wpIn (Fence.wide.inRound l) n P Q a w := by
  have hd : ∀ (i : Nat) (o : Oper), ops[i]? = some o → ∀ c, o.op ≠ .defer c := fun i o ho c e => by
    have := Array.all_eq_true_iff_forall_mem.1 hnd o (Array.mem_of_getElem? ho)
    rw [e] at this; cases this
  refine wpIn_region_any hm (wpAnyIn_inv (fun D a w => I D a w ∧ ∀ k j, D k = true → j ∈ needs ops k → D j = true) ?_ ?_ (fun D a w h => hend D a w h.1) _ _ _ _ (by simp) (by simp) ?_)
  · intro i o ho e he hb
    have hi : i < ops.size := (Array.getElem?_eq_some_iff.1 ho).1
    have := List.all_eq_true.1 hw i (List.mem_range.2 hi)
    exact of_decide_eq_true (List.all_eq_true.1 this _ (needs_of ho he hb))
  · intro D a w i o hI hD ho he
    have hi : i < ops.size := (Array.getElem?_eq_some_iff.1 ho).1
    have hn : ∀ j ∈ needs ops i, D j = true := fun j hj => by
      obtain ⟨e, h1, h2, rfl⟩ := needs_mem ho hj
      exact he e h1 h2
    refine wpOpIn_mono (fun a' w' h' => ⟨h', fun k j hk hj => ?_⟩) (opW_in hd (hstep D a w i hi hI.1 hD hI.2 hn))
    by_cases e : j = i
    · simp [e]
    · have : (if j = i then true else D j) = D j := if_neg e
      show (if j = i then true else D j) = true
      rw [this]
      by_cases ek : k = i
      · subst ek; exact hn j hj
      · have hk' : (if k = i then true else D k) = true := hk
        rw [if_neg ek] at hk'
        exact hI.2 k j hk' hj
  · have e : (fun j => (Array.replicate ops.size false).getD j false) = fun _ => false := by
      funext j
      rw [Array.getD_eq_getD_getElem?, Array.getElem?_replicate]
      split <;> rfl
    rw [e]
    exact ⟨h0, fun k j h => by cases h⟩
end

end Go.Proofs.YtgfkejecigefbaaDoor
