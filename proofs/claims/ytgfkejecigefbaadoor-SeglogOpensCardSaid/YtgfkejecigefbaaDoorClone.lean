
/- slices.Clone of bytes. Conditions: none. -/
import Derived.Test.YtgfkejecigefbaaDoorApp
import Derived.Test.YtgfkejecigefbaaDoorTextA
namespace Go.Proofs.YtgfkejecigefbaaDoor
open Go.RowKit
set_option linter.unusedVariables false

theorem info8c : (Tryd.prog.info? 5).map (fun i => (i.zero, i.size, i.bytes)) = some (some (.int .u8 0), 1, 1) := by kernel_rfl
theorem one8 (xs : List Int) : ∀ u ∈ xs.map (Value.int .u8), u.oneCell' = true := fun u hu => by obtain ⟨x, _, rfl⟩ := List.mem_map.1 hu; rfl

theorem sclone_any (v : Value) (bs : List Int) (w : World) (hn : bs.length ≤ 140737488351232) (hs : Sl w v (bs.map (Value.int .u8))) :
    Calls Tryd.prog 37 #[v] w fun e w' => ∃ v', e = .returned v' ∧ Sl w' v' (bs.map (Value.int .u8)) ∧ Below w.heap.size w w' := by
  have hs0 := hs
  obtain ⟨ad, cap, rfl, hc1, hcm, hc⟩ := hs0
  simp only [List.length_map] at *
  obtain ⟨i0, hi, hz0, hz1, hz2⟩ := info_parts info8c
  have hone : ∀ xs : List Int, ∀ u ∈ xs.map (Value.int .u8), u.oneCell' = true := fun xs u hu => by obtain ⟨x, _, rfl⟩ := List.mem_map.1 hu; rfl
  have HN := Lib.hid hn
  clear hn
  cases ad with
  | none =>
    have hl0 : bs.length = 0 := by
      rcases Nat.eq_zero_or_pos bs.length with h0 | h0
      · exact h0
      · obtain ⟨b, off, hab, _⟩ := hc h0; cases hab
    obtain rfl : bs = [] := List.length_eq_zero_iff.1 hl0
    have he : ∀ w : World, (binOp .eql 26 (.slice none 0 cap) (.slice none 0 0)).run Tryd.prog w = .ok (.bool true) w := fun w => Lib.run_eql_slice_nil w 26 5 none _ _ _ _ Tryd.underlying26
    simp only [List.length_nil]
    go_enter Tryd.func37, Tryd.ntmps37
    go_wp2
    go_ret
    exact ⟨_, rfl, Sl.nil w, Below.refl _ _⟩
  | some ad =>
    have hown0 : (w.alloc (.cells #[] 5)).ownsRow w.heap.size 5 1 (.slice (some ⟨w.heap.size, 0, none⟩) 0 0) 0 [] :=
      World.ownsRow_lit (base := w.heap.size) (e := 5) (size := 1) w #[] 0 (Nat.le_refl _) (by simp [maxLen]) (by simp)
    have hb0 : Below w.heap.size w (w.alloc (.cells #[] 5)) := (Below.refl _ _).alloc (Nat.le_refl _) _
    have hs1 := hs.below hb0 (Nat.le_refl _)
    clear hc
    have he : ∀ w : World, (binOp .eql 26 (.slice (some ad) bs.length cap) (.slice none 0 0)).run Tryd.prog w = .ok (.bool false) w := fun w => Lib.run_eql_slice_nil w 26 5 (some ad) _ _ _ _ Tryd.underlying26
    go_enter Tryd.func37, Tryd.ntmps37
    go_wp2_with (at_builtin; go_loud (refine wpList_append_sl rfl _ _ 26 rfl w.heap.size 5 i0 (.int .u8 0) 1 Tryd.underlying26 hi hz0 hz1 hz2 rfl _ 0 [] rfl hown0 (.slice (some ad) bs.length cap) (bs.map (Value.int .u8)) rfl hs1 (hone _) (by have := HN.out; rw [List.length_map]; unfold maxLen; omega) (by have := HN.out; rw [List.length_map]; omega) (by simp) ?_))
    intro v1 w4 hown1 hg4
    have hb4 := below_grown hb0 hown0 (Nat.le_refl _) (by simp) hg4
    clear hg4 hown0
    go_wp2
    go_ret
    exact ⟨_, rfl, by simpa using Sl.of_owns hown1, hb4⟩

/-- That a slice is a slice. -/
theorem Sl.val {w : World} {v : Value} {xs : List Value} (h : Sl w v xs) : ∃ a n cap, v = .slice a n cap := by
  obtain ⟨x, y, h1, _⟩ := h
  exact ⟨x, _, y, h1⟩

/-- The values us read as the texts pss, one by one. -/
def SlAll (w : World) : List Value → List (List Int) → Prop
  | [], [] => True
  | u :: us, p :: ps => Sl w u (p.map (Value.int .u8)) ∧ SlAll w us ps
  | _, _ => False

theorem SlAll.len {w : World} : ∀ {us : List Value} {ps : List (List Int)}, SlAll w us ps → us.length = ps.length
  | [], [], _ => rfl
  | [], _ :: _, h => h.elim
  | _ :: _, [], h => h.elim
  | _ :: _, _ :: _, h => by simp [SlAll.len h.2]

theorem SlAll.at {w : World} : ∀ {us : List Value} {ps : List (List Int)}, SlAll w us ps → ∀ (i : Nat) (u : Value) (bs : List Int), us[i]? = some u → ps[i]? = some bs → Sl w u (bs.map (Value.int .u8))
  | [], [], _, i, u, bs, hu, _ => by simp at hu
  | [], _ :: _, h, _, _, _, _, _ => h.elim
  | _ :: _, [], h, _, _, _, _, _ => h.elim
  | v :: us, p :: ps, h, 0, u, bs, hu, hp => by
    simp at hu hp
    subst hu hp
    exact h.1
  | v :: us, p :: ps, h, i + 1, u, bs, hu, hp => SlAll.at h.2 i u bs (by simpa using hu) (by simpa using hp)

/-- A literal slice of texts in a new block. -/
theorem Sls.litA {w : World} (us : List Value) {pss : List (List Int)} (t : TypeId) (h : SlAll w us pss) (hm : us.length ≤ maxLen) :
    Sls (w.alloc (.cells us.toArray t)) (.slice (some ⟨w.heap.size, 0, none⟩) us.length us.length) pss :=
  ⟨us, Sl.litL w us t hm, h.len, fun i u bs hu hp => (h.at i u bs hu hp).below ((Below.refl _ _).alloc (Nat.le_refl _) _) (Nat.le_refl _)⟩

end Go.Proofs.YtgfkejecigefbaaDoor
