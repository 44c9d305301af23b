/- The walks of pair and Root. -/
import Derived.Test.YtkabinicmdcbpaaDoorMerC
import Derived.Test.YtkabinicmdcbpaaDoorChain
import Derived.Deep.RegionHeld3
namespace Go.Proofs.YtkabinicmdcbpaaDoor
open Go.RowKit
set_option linter.unusedVariables false

theorem Sls.drop {w : World} {a : Option Addr} {n cap : Nat} {pss : List (List Int)} (h : Sls w (.slice a n cap) pss) (k : Nat) (hk : k ≤ pss.length) :
    Sls w (.slice (if cap = k then a else Option.map (fun x => ({ block := x.block, off := x.off + k } : Addr)) a) (n - k) (cap - k)) (pss.drop k) := by
  obtain ⟨vs, h1, h2, h3⟩ := h
  have hn : n = vs.length := h1.len.1
  refine ⟨vs.drop k, h1.drop k (by omega), by simp [h2], fun i u bs hu hp => ?_⟩
  rw [List.getElem?_drop] at hu hp
  exact h3 _ u bs hu hp

/-- The root over digests. -/
def rootI (size : Int) (l : List (List Int)) : List Int :=
  if l.length = 0 then hashT size 0 []
  else if h : 2 ≤ l.length then hashT size 4 [rootI size (l.take (half l.length)), rootI size (l.drop (half l.length))]
  else l.getD 0 []
termination_by l.length
decreasing_by
  · have := half_lt l.length h; rw [List.length_take]; omega
  · have := half_pos l.length; rw [List.length_drop]; omega

theorem rootI_zero (size : Int) : rootI size [] = hashT size 0 [] := by rw [rootI]; simp
theorem rootI_one (size : Int) (p : List Int) : rootI size [p] = p := by rw [rootI]; simp
theorem rootI_two (size : Int) (l : List (List Int)) (h : 2 ≤ l.length) : rootI size l = hashT size 4 [rootI size (l.take (half l.length)), rootI size (l.drop (half l.length))] := by
  rw [rootI, if_neg (by omega), dif_pos h]
theorem rootI_isB (size : Int) (l : List (List Int)) (h : ∀ p ∈ l, IsB p) : IsB (rootI size l) := by
  by_cases h2 : 2 ≤ l.length
  · rw [rootI_two size l h2]; exact hashT_isB' _ _ _
  · match l, h, h2 with
    | [], _, _ => rw [rootI_zero]; exact hashT_isB' _ _ _
    | [p], h, _ => rw [rootI_one]; exact h p (by simp)
    | _ :: _ :: _, _, h2 => simp at h2

set_option maxHeartbeats 400000 in
theorem pair_any (size : Int) (v1 v2 : Value) (b1 b2 : List Int) (w : World) (hB1 : IsB b1) (hB2 : IsB b2) (h1 : Sl w v1 (b1.map (Value.int .u8))) (h2 : Sl w v2 (b2.map (Value.int .u8))) (ht : Tabs w) :
    Calls Tryd.prog 78 #[.int .i64 size, v1, v2] w fun e w' => ∃ x, e = .returned x ∧ Sl w' x ((hashT size 4 [b1, b2]).map (Value.int .u8)) ∧ Below w.heap.size w w' := by
  obtain ⟨a1, l1, c1, rfl⟩ := h1.val
  obtain ⟨a2, l2, c2, rfl⟩ := h2.val
  have hL := Sls.litA _ 22 (show SlAll w [.slice a1 l1 c1, .slice a2 l2 c2] [b1, b2] from ⟨h1, h2, trivial⟩) (by simp [maxLen])
  have hbA : Below w.heap.size w (w.alloc (.cells #[.slice a1 l1 c1, .slice a2 l2 c2] 22)) := (Below.refl _ _).alloc (Nat.le_refl _) _
  have HH := Lib.hid (hash_any size 4 _ _ _ (by simp) (by decide) (by decide) hL (fun p hp => by
    simp only [List.mem_cons, List.not_mem_nil, or_false] at hp
    rcases hp with rfl | rfl
    · exact hB1
    · exact hB2) (ht.below hbA))
  clear hL h1 h2 ht
  go_enter Tryd.func78, Tryd.ntmps78
  go_wp2_with fail
  refine HH.out.mono ?_
  rintro e w5 ⟨y, rfl, hy, hb5⟩
  have hbr := hbA.trans (hb5.mono hbA.size)
  go_wp2
  go_ret
  exact ⟨_, rfl, hy, hbr⟩

set_option maxRecDepth 100000 in
set_option maxHeartbeats 1000000 in
theorem root_any (size : Int) : ∀ (m : Nat) (l : List (List Int)), l.length ≤ m → ∀ (v : Value) (w : World), l.length ≤ 140737488351232 → (∀ p ∈ l, IsB p) → (∀ p ∈ l, p.length ≤ 140737488351232) → Sls w v l → Tabs w →
    Calls Tryd.prog 28 #[.int .i64 size, v] w fun e w' => ∃ x, e = .returned x ∧ Sl w' x ((rootI size l).map (Value.int .u8)) ∧ Below w.heap.size w w' := by
  intro m
  induction m with
  | zero =>
    intro l hl v w hlen hB hP hs ht
    obtain rfl : l = [] := List.length_eq_zero_iff.1 (by omega)
    obtain ⟨a, c, rfl, _, _⟩ := hs.shape
    have HH := Lib.hid (hash_any size 0 (.slice none 0 0) [] w (by simp) (by decide) (by decide) ⟨[], Sl.nil _, rfl, fun i u bs hu _ => by simp at hu⟩ (by simp) ht)
    rw [rootI_zero]
    clear hs ht
    go_enter Tryd.func28, Tryd.ntmps28
    go_wp2_with fail
    refine HH.out.mono ?_
    rintro e w5 ⟨y, rfl, hy, hb5⟩
    go_wp2
    go_ret
    exact ⟨_, rfl, hy, hb5⟩
  | succ m ih =>
    intro l hl v w hlen hB hP hs ht
    by_cases h2 : 2 ≤ l.length
    · have hk1 := half_lt l.length h2
      have hk2 := half_pos l.length
      have HR := Lib.hid (rootI_two size l h2)
      obtain ⟨a, c, rfl, hc, hm⟩ := hs.shape
      obtain ⟨b, off, rfl, hbl, _⟩ := hs.at (k := 0) (by omega)
      have hst := hs.take (half l.length) (by omega)
      have hsd := hs.drop (half l.length) (by omega)
      have hne : ¬ c = half l.length := by omega
      rw [if_neg hne, Option.map_some] at hsd
      have HT := Lib.hid (fun w1 (h : Below w.heap.size w w1) => ih (l.take (half l.length)) (by rw [List.length_take]; omega) _ w1 (by rw [List.length_take]; omega) (fun p hp => hB p (List.mem_of_mem_take hp)) (fun p hp => hP p (List.mem_of_mem_take hp)) (hst.below h (Nat.le_refl _)) (ht.below h))
      have HD := Lib.hid (fun w1 (h : Below w.heap.size w w1) => ih (l.drop (half l.length)) (by rw [List.length_drop]; omega) _ w1 (by rw [List.length_drop]; omega) (fun p hp => hB p (List.mem_of_mem_drop hp)) (fun p hp => hP p (List.mem_of_mem_drop hp)) (hsd.below h (Nat.le_refl _)) (ht.below h))
      have HTt := Lib.hid (fun w1 (h : Below w.heap.size w w1) => ht.below h)
      have HB1 := Lib.hid (rootI_isB size (l.take (half l.length)) (fun p hp => hB p (List.mem_of_mem_take hp)))
      have HB2 := Lib.hid (rootI_isB size (l.drop (half l.length)) (fun p hp => hB p (List.mem_of_mem_drop hp)))
      have HSP := Lib.hid (split_any l.length w h2 (by omega))
      generalize rootI size (l.take (half l.length)) = R1 at *
      generalize rootI size (l.drop (half l.length)) = R2 at *
      generalize half l.length = k at *
      have hkI : (k : Int) ≤ (l.length : Int) := by omega
      have hkI0 : (0 : Int) ≤ (k : Int) := by omega
      have hkc : k ≤ c := by omega
      have hkcI : (k : Int) ≤ (c : Int) := by omega
      have hn0 : ¬ (l.length : Int) = 0 := by omega
      have hn1 : ¬ (l.length : Int) = 1 := by omega
      clear hst hsd ih hB hP hs ht
      go_enter Tryd.func28, Tryd.ntmps28
      go_wp2_with fail
      refine HSP.out.mono ?_
      rintro e w1 ⟨rfl, rfl⟩
      go_wp2
      go_region_held3 (fun w' => True) (exact trivial)
        (first | (go_at_call 78; refine (pair_any size x1 x2 R1 R2 w2 HB1.out HB2.out hx1 hx2 (HTt.out _ hb2)).mono ?_; rintro e w3 ⟨x3, rfl, hx3, hb3⟩) | (go_at_call 28; refine (HD.out _ hb1).mono ?_; rintro e w2 ⟨x2, rfl, hx2, hb2⟩; have hx1 := hx1.below hb2 (Nat.le_refl _); have hb2 : Below w.heap.size w w2 := below_trans2 hb1 hb2) | (go_at_call 28; refine (HT.out _ (by first | exact Below.refl _ _ | exact (Below.refl _ _).drew)).mono ?_; rintro e w1 ⟨x1, rfl, hx1, hb1⟩; have hb1 : Below w.heap.size w w1 := ⟨hb1.os, hb1.tape, hb1.output, hb1.size, hb1.block⟩))
      go_wp2
      go_ret
      exact ⟨_, rfl, by rw [HR.out]; exact hx3, below_trans2 hb2 hb3⟩
    · by_cases h1 : l.length = 1
      · obtain ⟨p, rfl⟩ := List.length_eq_one_iff.1 h1
        rw [rootI_one]
        exact root1_any size v p w (hP p (by simp)) hs
      · obtain rfl : l = [] := List.length_eq_zero_iff.1 (by omega)
        exact ih [] (by simp) v w hlen hB hP hs ht

end Go.Proofs.YtkabinicmdcbpaaDoor
