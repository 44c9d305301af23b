
/- Words that all walks of this seat share: a slice value that reads as a list of one-cell values, and what becomes of it. Conditions: none. -/
import Derived.WalkKit
import Derived.WalkSpells
import Derived.WalkLawsBesides
import Derived.WalkSmall
import Derived.Lib.Hide
import Derived.Deep.QuietTactic
import Derived.BigQuiet
import Derived.Deep.AppendLies
namespace Go.Proofs.YtgfkejecigefbaaDoor
open Go.RowKit

/-- The value v is a slice that reads as the values xs (one cell each), in blocks that are there. -/
def Sl (w : World) (v : Value) (xs : List Value) : Prop :=
  ∃ a cap, v = .slice a xs.length cap ∧ xs.length ≤ cap ∧ cap ≤ maxLen ∧ (0 < xs.length → ∃ b off, a = some ⟨b, off, none⟩ ∧ b < w.heap.size ∧ ∀ j u, xs[j]? = some u → w.cell? ⟨b, off + j, none⟩ = some u)

theorem Sl.below {w w' : World} {v : Value} {xs : List Value} (h : Sl w v xs) {B : Nat} (hb : Below B w w') (hB : w.heap.size ≤ B) : Sl w' v xs := by
  obtain ⟨a, cap, rfl, h1, h2, h3⟩ := h
  refine ⟨a, cap, rfl, h1, h2, fun hp => ?_⟩
  obtain ⟨b, off, rfl, hlt, hc⟩ := h3 hp
  have := hb.size
  refine ⟨b, off, rfl, by omega, fun j u hu => ?_⟩
  rw [hb.cell (p := ⟨b, off + j, none⟩) (by show b < B; omega)]
  exact hc j u hu

theorem ownsRow_below {w w' : World} {base : Nat} {e : TypeId} {size : Nat} {v : Value} {n : Nat} {xs : List Value} (h : w.ownsRow base e size v n xs) {B : Nat} (hb : Below B w w') (hB : w.heap.size ≤ B) : w'.ownsRow base e size v n xs := by
  obtain ⟨h1, h2⟩ := h
  refine ⟨h1, ?_⟩
  rcases h2 with h2 | ⟨g, cap, cur, hv, hg, hh, r⟩
  · exact Or.inl h2
  · have hlt : g < w.heap.size := by
      rcases Nat.lt_or_ge g w.heap.size with hlt | hge
      · exact hlt
      · rw [Array.getElem?_eq_none hge] at hh; cases hh
    exact Or.inr ⟨g, cap, cur, hv, hg, by rw [hb.block g (by omega)]; exact hh, r⟩

theorem Sl.of_owns {w : World} {base : Nat} {e : TypeId} {v : Value} {n : Nat} {xs : List Value} (h : w.ownsRow base e 1 v n xs) : Sl w v xs := by
  have hl : xs.length = n := by have := h.1; omega
  by_cases hn : n = 0
  · subst hn
    obtain rfl : xs = [] := List.length_eq_zero_iff.1 hl
    rcases h.2 with ⟨rfl, _⟩ | ⟨g, cap, cur, rfl, _, hh, _, hcm, _⟩
    · exact ⟨none, 0, rfl, by simp, by simp, fun hp => absurd hp (by simp)⟩
    · exact ⟨_, cap, rfl, by simp, hcm, fun hp => absurd hp (by simp)⟩
  · obtain ⟨g, cap, rfl, hb, hlt⟩ := h.form (by omega)
    have hcm : n ≤ cap ∧ cap ≤ maxLen := by
      rcases h.2 with ⟨h0, _⟩ | ⟨g', cap', cur, h0, _, hh, hnc, hcm, _⟩
      · cases h0
      · cases h0; exact ⟨hnc, hcm⟩
    subst hl
    refine ⟨_, cap, rfl, hcm.1, hcm.2, fun _ => ⟨g, 0, rfl, hlt, fun j u hu => ?_⟩⟩
    have hj : j < xs.length := by
      rcases Nat.lt_or_ge j xs.length with h1 | h1
      · exact h1
      · rw [List.getElem?_eq_none h1] at hu; cases hu
    have := h.cellAt j (by omega)
    rw [hu] at this
    simpa using this

theorem Sl.nil (w : World) : Sl w (.slice none 0 0) [] := ⟨none, 0, rfl, by simp, by simp, fun hp => absurd hp (by simp)⟩

/-- A literal slice in a new block. -/
theorem Sl.lit (w : World) (cs : Array Value) (t : TypeId) (hm : cs.size ≤ maxLen) : Sl (w.alloc (.cells cs t)) (.slice (some ⟨w.heap.size, 0, none⟩) cs.size cs.size) cs.toList := by
  have h := World.ownsRow_lit (base := w.heap.size) (e := t) (size := 1) w cs cs.size (Nat.le_refl _) hm (by omega)
  exact Sl.of_owns h

/-- A slice of numbers that came in. -/
theorem Sl.opened {w : World} {x : Addr} {n cap : Nat} {kk : IntKind} {zs : List Int} (hl : n ≤ cap) (hm : cap ≤ maxLen) (hz : zs.length = cap)
    (hc : ∀ i, i < zs.length → w.cell? (x.add i) = some (.int kk (zs.getD i 0))) : Sl w (.slice (some x) n cap) ((zs.take n).map (Value.int kk)) := by
  have hlen : ((zs.take n).map (Value.int kk)).length = n := by simp; omega
  refine ⟨some x, cap, by rw [hlen], by rw [hlen]; exact hl, hm, fun hp => ?_⟩
  obtain ⟨b, off, spot⟩ := x
  have h0 := hc 0 (by omega)
  have hspot : spot = none := by simpa [Addr.add] using World.cell?_spot h0
  subst hspot
  refine ⟨b, off, rfl, ?_, fun j u hu => ?_⟩
  · rcases Nat.lt_or_ge b w.heap.size with h | h
    · exact h
    · simp [Addr.add, World.cell?, Array.getElem?_eq_none h] at h0
  · have hj : j < n := by
      rcases Nat.lt_or_ge j n with h | h
      · exact h
      · rw [List.getElem?_eq_none (by omega)] at hu; cases hu
    have h1 := hc j (by omega)
    rw [List.getElem?_map, List.getElem?_take, if_pos hj, List.getElem?_eq_getElem (by omega)] at hu
    simp only [Option.map_some, Option.some.injEq] at hu
    subst hu
    rw [List.getD_eq_getElem?_getD, List.getElem?_eq_getElem (by omega)] at h1
    have e : (⟨b, off, none⟩ : Addr).add j = ⟨b, off + j, none⟩ := by
      simp only [Addr.add]; split <;> simp_all
    rw [e] at h1
    exact h1

/-- What an element of a slice of numbers reads as. -/
theorem Sl.ints {w : World} {a : Option Addr} {n cap : Nat} {kk : IntKind} {zs : List Int} (h : Sl w (.slice a n cap) (zs.map (Value.int kk))) {k : Nat} (hk : k < zs.length) :
    ∃ b off, a = some ⟨b, off, none⟩ ∧ b < w.heap.size ∧ ∀ j, j < zs.length → w.cell? ⟨b, off + j, none⟩ = some (.int kk (zs.getD j 0)) := by
  obtain ⟨a', cap', h0, h1, h2, h3⟩ := h
  cases h0
  obtain ⟨b, off, rfl, hlt, hc⟩ := h3 (by simp; omega)
  refine ⟨b, off, rfl, hlt, fun j hj => hc j _ ?_⟩
  rw [List.getElem?_map, List.getD_eq_getElem?_getD, List.getElem?_eq_getElem hj]; rfl

theorem Sl.len {w : World} {a : Option Addr} {n cap : Nat} {xs : List Value} (h : Sl w (.slice a n cap) xs) : n = xs.length ∧ n ≤ cap ∧ cap ≤ maxLen := by
  obtain ⟨a', cap', h0, h1, h2, h3⟩ := h
  cases h0
  exact ⟨rfl, h1, h2⟩

/-- Behind an append of one element to a slice of the call's own. -/
theorem below_append {B base : Nat} {w0 w1 w' : World} {e : TypeId} {size : Nat} {v : Value} {n : Nat} {xs : List Value} {o : Obj} (hb : Below B w0 w1) (hown : w1.ownsRow base e size v n xs) (hB : B ≤ base) (hs : B ≤ w1.heap.size)
    (hg : (w1.alloc o).grownBy w' v.ownBlock) : Below B w0 w' :=
  (hb.alloc hs o).grown hg (by simp; omega) (fun k hk => by have := (hown.lt k hk).1; omega)

theorem far_cell {w : World} {b j k : Nat} {u : Value} (h : ¬ j = k) : (w.setCell ⟨b, k, none⟩ u).cell? ⟨b, j, none⟩ = w.cell? ⟨b, j, none⟩ :=
  World.cell?_setCell_other _ _ _ _ (by intro e; cases e; exact h rfl)

/-- A quiet call in a region whose world is a draw's already; and in a first one: contracts that say 'w = w''. -/
theorem quiet_add_left {P : Program} {f : FuncId} {args : Array Value} {w : World} {a n : Nat} {v : Value}
    (h : Calls P f args (w.drewN (a + n)) fun e w' => e = .returned v ∧ w.drewN (a + n) = w') :
    Calls P f args (w.drewN (a + n)) fun e w'' => e = .returned v ∧ ∃ m, w'' = w.drewN (a + m) :=
  h.mono fun _ _ ⟨he, hm⟩ => ⟨he, n, hm.symm⟩
theorem quiet_left {P : Program} {f : FuncId} {args : Array Value} {w : World} {n : Nat} {v : Value}
    (h : Calls P f args (w.drewN n) fun e w' => e = .returned v ∧ w.drewN n = w') : Calls P f args (w.drewN n) fun e w'' => e = .returned v ∧ ∃ m, w'' = w.drewN m :=
  h.mono fun _ _ ⟨he, hm⟩ => ⟨he, n, hm.symm⟩

theorem ret_int {k : IntKind} {a b : Int} (h : a = b) : Ending.returned (.int k a) = .returned (.int k b) := by rw [h]
theorem ret_bool {a b : Bool} (h : a = b) : Ending.returned (.bool a) = .returned (.bool b) := by rw [h]

theorem below_trans2 {w w1 w2 : World} (h : Below w.heap.size w w1) (k : Below w1.heap.size w1 w2) : Below w.heap.size w w2 := h.trans (k.mono h.size)

end Go.Proofs.YtgfkejecigefbaaDoor
