/- slices.Equal at cuts: whether two rows of cuts are the same. Conditions: both read as rows of cuts. -/
import Derived.Test.YtililoojjfcfgaaDoorFcE
import Derived.BigQuiet
namespace Go.Proofs.YtililoojjfcfgaaDoor
open Go.RowKit
set_option linter.unusedVariables false

/-- A slice that reads as these ranges, two numbers each. -/
def flatP (l : List (Int × Int)) : List Value := l.flatMap fun p => [.int .i64 p.1, .int .i64 p.2]
def rngs (l : List CutP) : List (Int × Int) := l.map fun c => (c.lo, c.hi)
theorem flatP_rngs (l : List CutP) : flatP (rngs l) = flatC l := by simp [flatP, rngs, flatC, List.flatMap_map]
theorem flatP_len (l : List (Int × Int)) : (flatP l).length = l.length * 2 := by
  induction l with
  | nil => rfl
  | cons c l ih => simp only [flatP, List.flatMap_cons, List.length_append, List.length_cons, List.length_nil] at *; omega
theorem flatP_get : ∀ (l : List (Int × Int)) (k : Nat) (c : Int × Int), l[k]? = some c → (flatP l)[k * 2]? = some (.int .i64 c.1) ∧ (flatP l)[k * 2 + 1]? = some (.int .i64 c.2)
  | [], k, c, h => by simp at h
  | d :: l, 0, c, h => by simp at h; subst h; simp [flatP]
  | d :: l, k + 1, c, h => by
    have := flatP_get l k c (by simpa using h)
    have e : flatP (d :: l) = .int .i64 d.1 :: .int .i64 d.2 :: flatP l := by simp [flatP]
    rw [e, show (k + 1) * 2 = (k * 2) + 1 + 1 by omega]
    simpa using this

def CRow (w : World) (v : Value) (l : List (Int × Int)) : Prop :=
  ∃ a cap, v = .slice a l.length cap ∧ l.length ≤ cap ∧ cap ≤ 9223372036854775807 ∧ (0 < l.length → ∃ b off, a = some ⟨b, off, none⟩ ∧ b < w.heap.size ∧ ∀ k p, l[k]? = some p → w.cell? ⟨b, off + k * 2, none⟩ = some (.int .i64 p.1) ∧ w.cell? ⟨b, off + k * 2 + 1, none⟩ = some (.int .i64 p.2))
theorem CRow.of_owns {w : World} {base : Nat} {v : Value} {l : List (Int × Int)} (h : w.ownsRow base 43 2 v l.length (flatP l)) : CRow w v l := by
  by_cases hn : l.length = 0
  · obtain rfl : l = [] := List.length_eq_zero_iff.1 hn
    rcases h.2 with ⟨rfl, _⟩ | ⟨g, cap, cur, rfl, _, hh, _, hcm, _⟩
    · exact ⟨none, 0, rfl, by simp, by simp, fun hp => absurd hp (by simp)⟩
    · exact ⟨_, cap, rfl, by simp, hcm, fun hp => absurd hp (by simp)⟩
  · obtain ⟨g, cap, rfl, hb, hlt⟩ := h.form (by omega)
    have hcm : l.length ≤ cap ∧ cap ≤ maxLen := by
      rcases h.2 with ⟨h0, _⟩ | ⟨g', cap', cur, h0, _, hh, hnc, hcm, _⟩
      · cases h0
      · cases h0; exact ⟨hnc, hcm⟩
    refine ⟨_, cap, rfl, hcm.1, hcm.2, fun _ => ⟨g, 0, rfl, hlt, fun k p hp => ?_⟩⟩
    have hk : k < l.length := (List.getElem?_eq_some_iff.1 hp).1
    obtain ⟨h1, h2⟩ := flatP_get l k p hp
    have c1 := h.cellAt (k * 2) (by omega)
    have c2 := h.cellAt (k * 2 + 1) (by omega)
    rw [h1] at c1
    rw [h2] at c2
    rw [Nat.zero_add]
    exact ⟨c1, c2⟩
theorem CRow.below {w w' : World} {v : Value} {l : List (Int × Int)} (h : CRow w v l) {B : Nat} (hb : Below B w w') (hB : w.heap.size ≤ B) : CRow w' v l := by
  obtain ⟨a, cap, rfl, h1, h2, h3⟩ := h
  refine ⟨a, cap, rfl, h1, h2, fun hp => ?_⟩
  obtain ⟨b, off, rfl, hlt, hc⟩ := h3 hp
  have := hb.size
  refine ⟨b, off, rfl, by omega, fun k p hk => ?_⟩
  rw [hb.cell (p := ⟨b, off + k * 2, none⟩) (by show b < B; omega), hb.cell (p := ⟨b, off + k * 2 + 1, none⟩) (by show b < B; omega)]
  exact hc k p hk
theorem CRow.at {w : World} {a : Option Addr} {n cap : Nat} {l : List (Int × Int)} (h : CRow w (.slice a n cap) l) {k : Nat} {p : Int × Int} (hk : l[k]? = some p) :
    ∃ b off, a = some ⟨b, off, none⟩ ∧ b < w.heap.size ∧ w.cell? ⟨b, off + k * 2, none⟩ = some (.int .i64 p.1) ∧ w.cell? ⟨b, off + k * 2 + 1, none⟩ = some (.int .i64 p.2) := by
  obtain ⟨a', cap', h0, _, _, h3⟩ := h
  cases h0
  obtain ⟨b, off, rfl, hlt, hc⟩ := h3 (by have := (List.getElem?_eq_some_iff.1 hk).1; omega)
  exact ⟨b, off, rfl, hlt, hc k p hk⟩

theorem pairs_differ {xs ys : List (Int × Int)} {k : Nat} {x y : Int × Int} (hx : xs[k]? = some x) (hy : ys[k]? = some y) (h : x ≠ y) : decide (xs = ys) = false := by
  simp only [decide_eq_false_iff_not]
  rintro rfl
  rw [hx] at hy
  exact h (by simpa using hy)
theorem pairs_same {xs ys : List (Int × Int)} (hl : xs.length = ys.length) (h : ∀ j, j < xs.length → xs[j]? = ys[j]?) : decide (xs = ys) = true := by
  simp only [decide_eq_true_eq]
  refine List.ext_getElem? fun j => ?_
  by_cases hj : j < xs.length
  · exact h j hj
  · rw [List.getElem?_eq_none (by omega), List.getElem?_eq_none (by omega)]

set_option maxRecDepth 100000 in
set_option maxHeartbeats 1000000 in
theorem eqCuts_any (v1 v2 : Value) (xs ys : List (Int × Int)) (w : World) (h1 : CRow w v1 xs) (h2 : CRow w v2 ys) :
    Calls Tryd.prog 22 #[v1, v2] w fun e w' => e = .returned (.bool (decide (xs = ys))) ∧ Below w.heap.size w w' := by
  obtain ⟨a1, c1, rfl, hc1, hc1', _⟩ := id h1
  obtain ⟨a2, c2, rfl, hc2, hc2', _⟩ := id h2
  have H1 := Lib.hid h1
  have H2 := Lib.hid h2
  clear h1 h2
  by_cases hl : xs.length = ys.length
  · have hlb : ((xs.length : Int) != ys.length) = false := by simp [hl]
    have HL := Lib.hid hl
    clear hl
    go_enter Tryd.func22, Tryd.ntmps22
    go_wp2
    go_loopw [13] (fun i wr => ∃ k : Nat, k ≤ xs.length ∧ i = .int .i64 k ∧ Hid (∀ j, j < k → xs[j]? = ys[j]?) ∧ Below w.heap.size w wr) (fun i _ => xs.length - (intOf i).toNat)
    case atStart => exact ⟨0, by omega, rfl, fun j hj => absurd hj (by omega), Below.refl _ _⟩
    case round =>
      obtain ⟨k, hk, rfl, hall, hbr⟩ := hrel
      have hs := hbr.size
      by_cases hlt : k < xs.length
      · have hlt2 : k < ys.length := by rw [← HL.out]; exact hlt
        obtain ⟨⟨x1, x2⟩, hx⟩ : ∃ x, xs[k]? = some x := ⟨xs[k], List.getElem?_eq_getElem hlt⟩
        obtain ⟨⟨y1, y2⟩, hy⟩ : ∃ y, ys[k]? = some y := ⟨ys[k], List.getElem?_eq_getElem hlt2⟩
        obtain ⟨b1, o1, rfl, hb1, cx1, cx2⟩ := H1.out.at hx
        obtain ⟨b2, o2, rfl, hb2, cy1, cy2⟩ := H2.out.at hy
        have dx1 := (hbr.cell (p := ⟨b1, o1 + k * 2, none⟩) hb1).trans cx1
        have dx2 := (hbr.cell (p := ⟨b1, o1 + k * 2 + 1, none⟩) hb1).trans cx2
        have dy1 := (hbr.cell (p := ⟨b2, o2 + k * 2, none⟩) hb2).trans cy1
        have dy2 := (hbr.cell (p := ⟨b2, o2 + k * 2 + 1, none⟩) hb2).trans cy2
        have HX := Lib.hid hx
        have HY := Lib.hid hy
        have HBR := Lib.hid hbr
        clear cx1 cx2 cy1 cy2 hx hy hbr
        dsimp only at dx1 dx2 dy1 dy2
        by_cases e1 : x1 = y1
        · subst e1
          have q1 : (x1 == x1) = true := by simp
          by_cases e2 : x2 = y2
          · subst e2
            have q2 : (x2 == x2) = true := by simp
            go_wp2
            go_quiet (fail)
            go_wp2
            go_roundw
            case rel =>
              refine ⟨k + 1, by omega, by go_num, fun j hj => ?_, by first | exact HBR.out | exact below_drewN HBR.out _⟩
              rcases Nat.lt_or_ge j k with h | h
              · exact hall j h
              · obtain rfl : j = k := by omega
                rw [HX.out, HY.out]
            case measure => simp [intOf]; omega
          · have q2 : (x2 == y2) = false := by simpa using e2
            have HD := Lib.hid (show decide (xs = ys) = false from pairs_differ HX.out HY.out (by simp; exact e2))
            clear e2
            go_wp2
            go_quiet (fail)
            go_wp2
            go_ret
            exact ⟨ret_bool HD.out.symm, by first | exact HBR.out | exact below_drewN HBR.out _⟩
        · have q1 : (x1 == y1) = false := by simpa using e1
          have HD := Lib.hid (show decide (xs = ys) = false from pairs_differ HX.out HY.out (by simp; exact fun h => absurd h e1))
          clear e1
          go_wp2
          go_quiet (fail)
          go_wp2
          go_ret
          exact ⟨ret_bool HD.out.symm, by first | exact HBR.out | exact below_drewN HBR.out _⟩
      · obtain rfl : k = xs.length := by omega
        go_wp2
        go_ret
        exact ⟨ret_bool (pairs_same HL.out hall).symm, hbr⟩
  · have hlb : ((xs.length : Int) != ys.length) = true := by simp; omega
    have HD := Lib.hid (show decide (xs = ys) = false by simp only [decide_eq_false_iff_not]; rintro rfl; exact hl rfl)
    clear hl
    go_enter Tryd.func22, Tryd.ntmps22
    go_wp2
    go_ret
    exact ⟨ret_bool HD.out.symm, Below.refl _ _⟩

end Go.Proofs.YtililoojjfcfgaaDoor
