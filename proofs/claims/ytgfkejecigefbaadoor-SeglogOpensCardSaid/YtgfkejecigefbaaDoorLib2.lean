
/- More words that walks share: a slice behind a cut. Conditions: none. -/
import Derived.Test.YtgfkejecigefbaaDoorLib
import Derived.Laws.Rows
namespace Go.Proofs.YtgfkejecigefbaaDoor
open Go.RowKit
set_option linter.unusedVariables false

theorem Sl.drop {w : World} {a : Option Addr} {n cap : Nat} {xs : List Value} (h : Sl w (.slice a n cap) xs) (k : Nat) (hk : k ≤ n) :
    Sl w (.slice (if cap = k then a else Option.map (fun x => ({ block := x.block, off := x.off + k } : Addr)) a) (n - k) (cap - k)) (xs.drop k) := by
  obtain ⟨a', cap', h0, h1, h2, h3⟩ := h
  cases h0
  have hl : (xs.drop k).length = xs.length - k := by simp
  refine ⟨_, cap - k, by rw [hl], by omega, by omega, fun hp => ?_⟩
  obtain ⟨b, off, rfl, hlt, hc⟩ := h3 (by omega)
  refine ⟨b, off + k, by rw [if_neg (by omega)]; rfl, hlt, fun j u hu => ?_⟩
  rw [List.getElem?_drop] at hu
  have := hc _ u hu
  rwa [← Nat.add_assoc] at this

/-- Where a slice with an element lies. -/
theorem Sl.addr {w : World} {a : Option Addr} {n cap : Nat} {xs : List Value} (h : Sl w (.slice a n cap) xs) (hp : 0 < xs.length) :
    ∃ b off, a = some ⟨b, off, none⟩ ∧ b < w.heap.size ∧ ∀ j u, xs[j]? = some u → w.cell? ⟨b, off + j, none⟩ = some u := by
  obtain ⟨a', cap', h0, _, _, h3⟩ := h
  cases h0
  exact h3 hp

theorem add_plain0 (b off j : Nat) : (⟨b, off, none⟩ : Addr).add j = ⟨b, off + j, none⟩ := by
  simp only [Addr.add]; split <;> simp_all

/-- A literal in a new block with a mark. -/
theorem Sl.litf (w : World) (cs : Array Value) (t : TypeId) (fr : Nat × Nat) (hm : cs.size ≤ maxLen) : Sl (w.alloc (.cells cs t fr)) (.slice (some ⟨w.heap.size, 0, none⟩) cs.size cs.size) cs.toList := by
  have hl : cs.toList.length = cs.size := by simp
  refine ⟨_, cs.size, by rw [hl], by rw [hl]; exact Nat.le_refl _, hm, fun _ => ⟨w.heap.size, 0, rfl, by simp, fun j u hu => ?_⟩⟩
  have hg : (w.alloc (.cells cs t fr)).heap[w.heap.size]? = some (.cells cs t fr) := heap_alloc_new _ _
  simp only [World.cell?, hg, Nat.zero_add]
  simpa using hu

theorem quiet_add {P : Program} {f : FuncId} {args : Array Value} {w : World} {a n : Nat} {v : Value}
    (h : Calls P f args (w.drewN (a + n)) fun e w' => e = .returned v ∧ ∃ m, w' = (w.drewN (a + n)).drewN m) :
    Calls P f args (w.drewN (a + n)) fun e w'' => e = .returned v ∧ ∃ m, w'' = w.drewN (a + m) :=
  h.mono fun _ _ ⟨he, m, hm⟩ => ⟨he, n + m, by rw [hm, World.drewN_drewN, Nat.add_assoc]⟩

/-- The shape of a slice that is read. -/
theorem Sl.shape {w : World} {v : Value} {xs : List Value} (h : Sl w v xs) : ∃ a cap, v = .slice a xs.length cap ∧ xs.length ≤ cap ∧ cap ≤ 9223372036854775807 := by
  obtain ⟨x, y, h1, h2, h3, _⟩ := h
  exact ⟨x, y, h1, h2, h3⟩

end Go.Proofs.YtgfkejecigefbaaDoor
