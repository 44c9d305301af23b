/- The walks of the laws ShaSums, ShaBorders and ShaCuts. -/
import Derived.Test.YtililoojjfcfgaaDoorShaI
namespace Go.Proofs.YtililoojjfcfgaaDoor
open Go.RowKit
set_option linter.unusedVariables false

theorem clone_any (v : Value) (bs : List Int) (w : World) (hn : bs.length ≤ 140737488351232) (hs : Sl w v (bs.map (Value.int .u8))) :
    Calls Tryd.prog 39 #[v] w fun e w' => ∃ v', e = .returned v' ∧ Sl w' v' (bs.map (Value.int .u8)) ∧ Below w.heap.size w w' := by
  have hs0 := hs
  obtain ⟨ad, cap, rfl, hc1, hcm, hc⟩ := hs0
  simp only [List.length_map] at *
  obtain ⟨i0, hi, hz0, hz1, hz2⟩ := info_parts info8
  have hone : ∀ xs : List Int, ∀ u ∈ xs.map (Value.int .u8), u.oneCell' = true := fun xs u hu => by obtain ⟨x, _, rfl⟩ := List.mem_map.1 hu; rfl
  have HN := Lib.hid hn
  clear hn
  cases ad with
  | none =>
    have hl0 : bs.length = 0 := by
      rcases Nat.eq_zero_or_pos bs.length with h0 | h0
      · exact h0
      · obtain ⟨b, off, hab, _⟩ := hc h0; cases hab
    obtain rfl : bs = [] := List.length_eq_zero_iff.1 hl0
    have he : ∀ w : World, (binOp .eql 22 (.slice none 0 cap) (.slice none 0 0)).run Tryd.prog w = .ok (.bool true) w := fun w => Lib.run_eql_slice_nil w 22 5 none _ _ _ _ Tryd.underlying22
    simp only [List.length_nil]
    go_enter Tryd.func39, Tryd.ntmps39
    go_wp2
    go_ret
    exact ⟨_, rfl, Sl.nil w, Below.refl _ _⟩
  | some ad =>
    have hown0 : (w.alloc (.cells #[] 5)).ownsRow w.heap.size 5 1 (.slice (some ⟨w.heap.size, 0, none⟩) 0 0) 0 [] :=
      World.ownsRow_lit (base := w.heap.size) (e := 5) (size := 1) w #[] 0 (Nat.le_refl _) (by simp [maxLen]) (by simp)
    have hb0 : Below w.heap.size w (w.alloc (.cells #[] 5)) := (Below.refl _ _).alloc (Nat.le_refl _) _
    have hs1 := hs.below hb0 (Nat.le_refl _)
    clear hc
    have he : ∀ w : World, (binOp .eql 22 (.slice (some ad) bs.length cap) (.slice none 0 0)).run Tryd.prog w = .ok (.bool false) w := fun w => Lib.run_eql_slice_nil w 22 5 (some ad) _ _ _ _ Tryd.underlying22
    go_enter Tryd.func39, Tryd.ntmps39
    go_wp2_with (at_builtin; go_loud (refine wpList_append_sl rfl _ _ 22 rfl w.heap.size 5 i0 (.int .u8 0) 1 Tryd.underlying22 hi hz0 hz1 hz2 rfl _ 0 [] rfl hown0 (.slice (some ad) bs.length cap) (bs.map (Value.int .u8)) rfl hs1 (hone _) (by have := HN.out; rw [List.length_map]; unfold maxLen; omega) (by have := HN.out; rw [List.length_map]; omega) (by simp) ?_))
    intro v1 w4 hown1 hg4
    have hb4 := below_grown hb0 hown0 (Nat.le_refl _) (by simp) hg4
    clear hg4 hown0
    go_wp2
    go_ret
    exact ⟨_, rfl, by simpa using Sl.of_owns hown1, hb4⟩

theorem Sl.take3 {w : World} {a : Option Addr} {n cap : Nat} {xs : List Value} (h : Sl w (.slice a n cap) xs) (m c : Nat) (hm : m ≤ xs.length) (hc1 : m ≤ c) (hc2 : c ≤ cap) : Sl w (.slice a m c) (xs.take m) := by
  obtain ⟨a', cap', h0, h1, h2, h3⟩ := h
  cases h0
  have hl : (xs.take m).length = m := by simp; omega
  refine ⟨a, c, by rw [hl], by rw [hl]; omega, by omega, fun hp => ?_⟩
  obtain ⟨b, off, rfl, hlt, hc⟩ := h3 (by omega)
  refine ⟨b, off, rfl, hlt, fun j u hu => hc j u ?_⟩
  rw [List.getElem?_take] at hu
  split at hu
  · exact hu
  · cases hu


end Go.Proofs.YtililoojjfcfgaaDoor
