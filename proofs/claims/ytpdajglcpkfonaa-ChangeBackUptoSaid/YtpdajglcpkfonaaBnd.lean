/- A batch of changes: how it reads (a slice of structs of two byte slices); what is wrong with it. -/
import Derived.Test.YtpdajglcpkfonaaBytes
namespace Go.Proofs.Ytpdajglcpkfonaa
open Go.RowKit
set_option linter.unusedVariables false

abbrev Chg := List Int × List Int
/-- The value is a change of this identity and this key. -/
def Bd (w : World) (v : Value) (p : Chg) : Prop := ∃ i k, v = .agg #[i, k] ∧ Sl w i (p.1.map (Value.int .u8)) ∧ Sl w k (p.2.map (Value.int .u8))
/-- The value is a slice of changes. -/
def Bds (w : World) (v : Value) (l : List Chg) : Prop :=
  ∃ a cap, v = .slice a l.length cap ∧ l.length ≤ cap ∧ cap ≤ maxLen ∧ (0 < l.length → ∃ b off, a = some ⟨b, off, none⟩ ∧ b < w.heap.size ∧
    ∀ i p, l[i]? = some p → ∃ u1 u2, w.cell? ⟨b, off + i * 2, none⟩ = some u1 ∧ w.cell? ⟨b, off + i * 2 + 1, none⟩ = some u2 ∧ Sl w u1 (p.1.map (Value.int .u8)) ∧ Sl w u2 (p.2.map (Value.int .u8)))

theorem Bd.below {w w' : World} {v : Value} {p : Chg} (h : Bd w v p) {B : Nat} (hb : Below B w w') (hB : w.heap.size ≤ B) : Bd w' v p := by
  obtain ⟨i, k, rfl, h1, h2⟩ := h
  exact ⟨i, k, rfl, h1.below hb hB, h2.below hb hB⟩
theorem Bds.below {w w' : World} {v : Value} {l : List Chg} (h : Bds w v l) {B : Nat} (hb : Below B w w') (hB : w.heap.size ≤ B) : Bds w' v l := by
  obtain ⟨a, cap, rfl, h1, h2, h3⟩ := h
  refine ⟨a, cap, rfl, h1, h2, fun hp => ?_⟩
  obtain ⟨b, off, rfl, hlt, hc⟩ := h3 hp
  have := hb.size
  refine ⟨b, off, rfl, by omega, fun i p hi => ?_⟩
  obtain ⟨u1, u2, c1, c2, s1, s2⟩ := hc i p hi
  exact ⟨u1, u2, (hb.cell (p := ⟨b, off + i * 2, none⟩) (by show b < B; omega)).trans c1, (hb.cell (p := ⟨b, off + i * 2 + 1, none⟩) (by show b < B; omega)).trans c2, s1.below hb hB, s2.below hb hB⟩
theorem Bds.shape {w : World} {v : Value} {l : List Chg} (h : Bds w v l) : ∃ a cap, v = .slice a l.length cap ∧ l.length ≤ cap ∧ cap ≤ 9223372036854775807 := by
  obtain ⟨a, cap, rfl, h1, h2, _⟩ := h
  exact ⟨a, cap, rfl, h1, h2⟩
theorem Bds.nil (w : World) : Bds w (.slice none 0 0) [] := ⟨none, 0, rfl, by simp, by unfold maxLen; omega, by simp⟩
theorem Bds.take {w : World} {a : Option Addr} {n cap : Nat} {l : List Chg} (h : Bds w (.slice a n cap) l) (m : Nat) (hm : m ≤ l.length) : Bds w (.slice a m cap) (l.take m) := by
  obtain ⟨a', cap', h0, h1, h2, h3⟩ := h
  cases h0
  have hl : (l.take m).length = m := by rw [List.length_take]; omega
  refine ⟨a, cap, by rw [hl], by omega, h2, fun hp => ?_⟩
  obtain ⟨b, off, rfl, hlt, hc⟩ := h3 (by omega)
  refine ⟨b, off, rfl, hlt, fun i p hi => hc i p ?_⟩
  rw [List.getElem?_take] at hi
  split at hi
  · exact hi
  · cases hi
/-- Where an element lies, and how its two cells read. -/
theorem Bds.at {w : World} {a : Option Addr} {n cap : Nat} {l : List Chg} (h : Bds w (.slice a n cap) l) {k : Nat} (hk : k < l.length) :
    ∃ b off, a = some ⟨b, off, none⟩ ∧ b < w.heap.size ∧ ∃ u1 u2, w.cell? ⟨b, off + k * 2, none⟩ = some u1 ∧ w.cell? ⟨b, off + k * 2 + 1, none⟩ = some u2 ∧
      Sl w u1 ((l.getD k ([], [])).1.map (Value.int .u8)) ∧ Sl w u2 ((l.getD k ([], [])).2.map (Value.int .u8)) := by
  obtain ⟨a', cap', h0, h1, h2, h3⟩ := h
  cases h0
  obtain ⟨b, off, rfl, hlt, hc⟩ := h3 (by omega)
  have hg : l[k]? = some (l.getD k ([], [])) := by rw [List.getD_eq_getElem?_getD, List.getElem?_eq_getElem hk]; rfl
  obtain ⟨u1, u2, c1, c2, s1, s2⟩ := hc k _ hg
  exact ⟨b, off, rfl, hlt, u1, u2, c1, c2, s1, s2⟩

/-- What is wrong with a batch. -/
def chkI (mi mk : Int) (l : List Chg) : Int :=
  if l.length = 0 then 82 else if 32 < l.length then 4 else if l.any (fun p => decide (mi < p.1.length) || decide (mk < p.2.length)) then 1 else if (l.map (·.1)).Nodup then 0 else 80

def FewB (w : World) (l : List Chg) (e : Ending) (w' : World) : Prop := ∃ v', e = .returned v' ∧ Bds w v' l ∧ w = w'
theorem few12_any (v : Value) (l : List Chg) (w : World) (h : Bds w v l) :
    Calls Try.prog 22 #[v] w (FewB w (l.take 40)) := by
  obtain ⟨a, cap, rfl, hc, hm⟩ := h.shape
  by_cases hl : l.length ≤ 40
  · have hI : ¬ (40 : Int) < (l.length : Int) := by omega
    have HM := Lib.hid (show (min (l.length : Int) 40).toNat = l.length by omega)
    go_enter Try.func22, Try.ntmps22
    go_wp2
    go_ret
    exact ⟨_, rfl, by rw [List.take_of_length_le hl]; first | exact h | (rw [HM.out]; exact h), rfl⟩
  · have hI : (40 : Int) < (l.length : Int) := by omega
    have hcI : (40 : Int) ≤ (cap : Int) := by omega
    have HM := Lib.hid (show (min (l.length : Int) 40).toNat = 40 by omega)
    go_enter Try.func22, Try.ntmps22
    go_wp2
    go_ret
    exact ⟨_, rfl, by first | exact h.take 40 (by omega) | (rw [HM.out]; exact h.take 40 (by omega)), rfl⟩

end Go.Proofs.Ytpdajglcpkfonaa
