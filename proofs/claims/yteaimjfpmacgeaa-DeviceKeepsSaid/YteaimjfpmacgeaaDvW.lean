/- A device: Copy. -/
import Derived.Test.YteaimjfpmacgeaaDvE
import Derived.Test.YteaimjfpmacgeaaDvI
import Derived.Test.YteaimjfpmacgeaaApB
import Derived.ArgAppend
namespace Go.Proofs.Yteaimjfpmacgeaa
open Go.RowKit
set_option linter.unusedVariables false

def secCells (s : Sec) : List Value := s.now.map (Value.int .u8) ++ (s.kept.map (Value.int .u8) ++ [.bool s.waits])
def rowCells : List Sec → List Value
  | [] => []
  | s :: l => secCells s ++ rowCells l
theorem secCells_len {s : Sec} (h : s.now.length = 64 ∧ s.kept.length = 64) : (secCells s).length = 129 := by simp [secCells, h.1, h.2]
theorem rowCells_len : ∀ {l : List Sec}, (∀ s ∈ l, s.now.length = 64 ∧ s.kept.length = 64) → (rowCells l).length = l.length * 129
  | [], _ => rfl
  | s :: l, h => by
    rw [rowCells, List.length_append, secCells_len (h s (by simp)), rowCells_len fun t ht => h t (by simp [ht]), List.length_cons]
    omega
theorem rowCells_at : ∀ {l : List Sec}, (∀ s ∈ l, s.now.length = 64 ∧ s.kept.length = 64) → ∀ (i r : Nat), r < 129 → (rowCells l)[i * 129 + r]? = l[i]?.bind fun s => (secCells s)[r]?
  | [], _, i, r, _ => by simp [rowCells]
  | s :: l, h, 0, r, hr => by
    rw [rowCells, List.getElem?_append_left (by rw [secCells_len (h s (by simp))]; omega)]
    simp
  | s :: l, h, i + 1, r, hr => by
    rw [rowCells, List.getElem?_append_right (by rw [secCells_len (h s (by simp))]; omega), secCells_len (h s (by simp))]
    rw [show (i + 1) * 129 + r - 129 = i * 129 + r by omega, rowCells_at (fun t ht => h t (by simp [ht])) i r hr]
    simp
theorem secCells_now {s : Sec} (h : s.now.length = 64 ∧ s.kept.length = 64) {r : Nat} (hr : r < 64) : (secCells s)[r]? = (s.now.map (Value.int .u8))[r]? := by
  unfold secCells; rw [List.getElem?_append_left (by rw [List.length_map]; omega)]
theorem secCells_kept {s : Sec} (h : s.now.length = 64 ∧ s.kept.length = 64) {r : Nat} (hr : r < 64) : (secCells s)[64 + r]? = (s.kept.map (Value.int .u8))[r]? := by
  unfold secCells
  rw [List.getElem?_append_right (by rw [List.length_map]; omega), List.length_map, h.1, show 64 + r - 64 = r by omega, List.getElem?_append_left (by rw [List.length_map]; omega)]
theorem secCells_waits {s : Sec} (h : s.now.length = 64 ∧ s.kept.length = 64) : (secCells s)[128]? = some (.bool s.waits) := by
  unfold secCells
  rw [List.getElem?_append_right (by rw [List.length_map]; omega), List.length_map, h.1, List.getElem?_append_right (by rw [List.length_map]; omega), List.length_map, h.2]; rfl
/-- The row's cells. -/
theorem SRow.cells {w : World} {b : Nat} {l : List Sec} (h : SRow w b l) (j : Nat) (u : Value) (hj : (rowCells l)[j]? = some u) : w.cell? ⟨b, j, none⟩ = some u := by
  have e : j = j / 129 * 129 + j % 129 := by omega
  have hr : j % 129 < 129 := by omega
  generalize j / 129 = i at *
  generalize j % 129 = r at *
  subst e
  rw [rowCells_at h.len i r hr] at hj
  cases hs : l[i]? with
  | none => rw [hs] at hj; cases hj
  | some s =>
    rw [hs] at hj
    have hj : (secCells s)[r]? = some u := hj
    have hl := h.len s (List.mem_of_getElem? hs)
    obtain ⟨a1, a2, a3⟩ := h.at_ i s hs
    by_cases h1 : r < 64
    · rw [secCells_now hl h1] at hj; exact a1 r u hj
    · by_cases h2 : r < 128
      · obtain ⟨q, rfl⟩ : ∃ q, r = 64 + q := ⟨r - 64, by omega⟩
        rw [secCells_kept hl (by omega)] at hj
        rw [← Nat.add_assoc]
        exact a2 q u hj
      · obtain rfl : r = 128 := by omega
        rw [secCells_waits hl] at hj; cases hj; exact a3
theorem SRow.ofCells {w : World} {b : Nat} {l : List Sec} {cur : Array Value} (k : Blk w b 81 cur) (hl : ∀ s ∈ l, s.now.length = 64 ∧ s.kept.length = 64) (hc : ∀ (j : Nat) (u : Value), (rowCells l)[j]? = some u → cur[j]? = some u) : SRow w b l := by
  refine ⟨⟨cur, k⟩, fun i s hs => ?_, hl⟩
  have hls := hl s (List.mem_of_getElem? hs)
  have key : ∀ r u, r < 129 → (secCells s)[r]? = some u → w.cell? ⟨b, i * 129 + r, none⟩ = some u := fun r u hr hu => by
    rw [k.cell]
    refine hc _ _ ?_
    rw [rowCells_at hl i r hr, hs]; exact hu
  refine ⟨fun j v hv => ?_, fun j v hv => ?_, ?_⟩
  · have hj : j < 64 := by have := (List.getElem?_eq_some_iff.1 hv).1; rw [List.length_map] at this; omega
    exact key j v (by omega) (by rw [secCells_now hls hj]; exact hv)
  · have hj : j < 64 := by have := (List.getElem?_eq_some_iff.1 hv).1; rw [List.length_map] at this; omega
    rw [Nat.add_assoc]
    exact key (64 + j) v (by omega) (by rw [secCells_kept hls hj]; exact hv)
  · exact key 128 _ (by omega) (secCells_waits hls)

set_option maxRecDepth 100000 in
set_option maxHeartbeats 1000000 in
theorem dclone_any (w : World) (b n cap : Nat) (l : List Sec) (hR : SRow w b l) (hn : l.length = n) (h1 : 1 ≤ n) (h2 : n ≤ 16384) :
    Calls Try.prog 46 #[.slice (some ⟨b, 0, none⟩) n cap] w fun e w' => ∃ b' c', e = .returned (.slice (some ⟨b', 0, none⟩) n c') ∧ w.heap.size ≤ b' ∧ (n ≤ c' ∧ c' ≤ 9223372036854775807) ∧ SRow w' b' l ∧ Below w.heap.size w w' := by
  have hi : ∃ i0, Try.prog.info? 81 = some i0 ∧ i0.zero = some (.agg zeroSC) ∧ i0.size = 129 ∧ i0.bytes = 129 := info_parts infoSec
  obtain ⟨i0, hi, hz0, hz1, hz2⟩ := hi
  have he : ∀ w : World, (binOp .eql 45 (.slice (some ⟨b, 0, none⟩) n cap) (.slice none 0 0)).run Try.prog w = .ok (.bool false) w := fun w => Lib.run_eql_slice_nil w 45 81 (some ⟨b, 0, none⟩) _ _ _ _ Try.underlying45
  have hb0 : Below w.heap.size w (w.alloc (.cells #[] 81)) := (Below.refl _ _).alloc (Nat.le_refl _) _
  have hR1 : SRow (w.alloc (.cells #[] 81)) b l := hR.keep (hb0.block b hR.lt)
  have hlen : (rowCells l).length = n * 129 := by rw [rowCells_len hR.len, hn]
  have HR := Lib.hid hR1
  have HL := Lib.hid hlen
  have HLL := Lib.hid hR.len
  have HO := Lib.hid (show ∀ u ∈ rowCells l, u.oneCell' = true from by
    have key : ∀ l : List Sec, ∀ u ∈ rowCells l, u.oneCell' = true := by
      intro l
      induction l with
      | nil => intro u hu; cases hu
      | cons s l ih =>
        intro u hu
        rcases List.mem_append.1 (show u ∈ secCells s ++ rowCells l from hu) with hu | hu
        · rcases List.mem_append.1 hu with hu | hu
          · obtain ⟨x, _, rfl⟩ := List.mem_map.1 hu; rfl
          · rcases List.mem_append.1 hu with hu | hu
            · obtain ⟨x, _, rfl⟩ := List.mem_map.1 hu; rfl
            · obtain rfl : u = Value.bool s.waits := by simpa using hu
              rfl
        · exact ih u hu
    exact key l)
  have HZ := Lib.hid (show (Value.agg zeroSC).cells.size = 129 from rfl)
  clear hR hR1 hlen
  go_enter Try.func46, Try.ntmps46
  go_wp2_with (at_builtin; refine wpList_append_grows _ rfl _ _ 45 rfl 81 i0 (.agg zeroSC) 129 129 Try.underlying45 hi hz0 hz1 hz2 HZ.out (by decide) (some ⟨w.heap.size, 0, none⟩) 0 0 [] rfl (fun e => by cases e) rfl (fun _ _ j u hj => by simp at hj) ⟨b, 0, none⟩ n cap (rowCells l) rfl HL.out (fun j u hj => by rw [add_plain0, Nat.zero_add]; exact HR.out.cells j u hj) HO.out (by omega) (by unfold maxLen; omega) (by omega) ?_)
  intro v2 w2 hown hg2
  have hb2 : Below w.heap.size w w2 := hb0.grown hg2 (by simp) (fun k hk => by cases hk)
  obtain ⟨g2, c2, e2, hge, hsr⟩ : ∃ g2 c2, v2 = Value.slice (some ⟨g2, 0, none⟩) n c2 ∧ (w.heap.size ≤ g2 ∧ n ≤ c2 ∧ c2 ≤ 9223372036854775807) ∧ SRow w2 g2 l := by
    rcases hown.2 with ⟨_, e⟩ | ⟨g, c, cur, e, hg, hh, hnc, hcm, hcs, ht⟩
    · omega
    · refine ⟨g, c, e, ⟨by omega, hnc, by unfold maxLen at hcm; exact hcm⟩, SRow.ofCells (show Blk w2 g _ cur from hh) HLL.out fun j u hj => ?_⟩
      rw [← ht, List.getElem?_take] at hj
      split at hj
      · rw [← Array.getElem?_toList]; exact hj
      · cases hj
  subst e2
  have HGE := Lib.hid hge
  have HSR := Lib.hid hsr
  have HB2 := Lib.hid hb2
  clear hown hg2 hb2 hge hsr hb0
  go_wp2
  go_ret
  exact ⟨_, _, rfl, HGE.out.1, HGE.out.2, HSR.out, HB2.out⟩

set_option maxRecDepth 100000 in
set_option maxHeartbeats 1000000 in
theorem dcopy_any (w : World) (g b : Nat) (d : DSt) (h : Dev w g b d) :
    Calls Try.prog 23 #[.pointer (some ⟨g, 0, none⟩)] w fun e w' => ∃ s b', e = .returned (.pointer (some ⟨s, 0, none⟩)) ∧ w.heap.size ≤ s ∧ w.heap.size ≤ b' ∧ Dev w' s b' d ∧ Below w.heap.size w w' := by
  have HN := Lib.hid (dnone_any w g b d h)
  obtain ⟨cap, h1, h2, k⟩ := h.blk
  have c0 : w.cell? ⟨g, 0, none⟩ = some (.slice (some ⟨b, 0, none⟩) d.l.length cap) := k.cell 0
  have c1 : w.cell? ⟨g, 1, none⟩ = some (.bool d.dead) := k.cell 1
  have c2 : w.cell? ⟨g, 2, none⟩ = some (.bool d.fused) := k.cell 2
  have c3 : w.cell? ⟨g, 3, none⟩ = some (.int .i64 d.burns) := k.cell 3
  have c4 : w.cell? ⟨g, 4, none⟩ = some (.int .i64 d.changes) := k.cell 4
  have hbA : Below w.heap.size w (w.alloc (.cells (devCells b cap d) 47)) := (Below.refl _ _).alloc (Nat.le_refl _) _
  have kA := Blk.new w 47 (devCells b cap d)
  have d0 : (w.alloc (.cells (devCells b cap d) 47)).cell? ⟨g, 0, none⟩ = some (.slice (some ⟨b, 0, none⟩) d.l.length cap) := (k.alloc _).cell 0
  have hD1 := h.below hbA
  have HC := Lib.hid (dclone_any (w.alloc (.cells (devCells b cap d) 47)) b d.l.length cap d.l hD1.row rfl h.pos.1 h.pos.2)
  have HK := Lib.hid kA
  have HB := Lib.hid hbA
  have HP := Lib.hid h.pos
  have HOK := Lib.hid h.ok
  clear k h hD1 kA hbA h1 h2
  go_enter Try.func23, Try.ntmps23
  go_wp2_with fail
  refine HN.out.mono ?_
  rintro e w1 ⟨rfl, rfl⟩
  go_wp2_with fail
  refine HC.out.mono ?_
  rintro e w2 ⟨b', c', rfl, hge, hc', hR2, hb2⟩
  have k2 := HK.out.belowS hb2
  have s0 : w2.cell? ⟨w.heap.size, 0, none⟩ = some (.slice (some ⟨b, 0, none⟩) d.l.length cap) := k2.cell 0
  have f0 := k2.frozen 0
  have hbw := below_trans2 HB.out hb2
  have hge2 : w.heap.size + 1 ≤ b' := by simpa using hge
  have hne : w.heap.size ≠ b' := by omega
  have HF := Lib.hid (show Dev (w2.setCell ⟨w.heap.size, 0, none⟩ (.slice (some ⟨b', 0, none⟩) d.l.length c')) w.heap.size b' d from
    ⟨⟨c', hc'.1, hc'.2, k2.set_ 0 (.slice (some ⟨b', 0, none⟩) d.l.length c')⟩, hR2.only (Only.setCell [w.heap.size] w2 (p := ⟨w.heap.size, 0, none⟩) (by simp) _) (by simp; exact fun e => hne e.symm), HP.out, HOK.out⟩)
  have HBF := Lib.hid (show Below w.heap.size w (w2.setCell ⟨w.heap.size, 0, none⟩ (.slice (some ⟨b', 0, none⟩) d.l.length c')) from Only.belowOf hbw (Only.setCell [w.heap.size] w2 (p := ⟨w.heap.size, 0, none⟩) (by simp) _) hbw.size (by simp))
  have HGE := Lib.hid (show w.heap.size ≤ b' from by omega)
  clear hge hge2 hc' hR2 hb2 k2 hbw hne HC
  go_wp2
  go_ret
  exact ⟨_, b', rfl, Nat.le_refl _, HGE.out, HF.out, HBF.out⟩

end Go.Proofs.Yteaimjfpmacgeaa
