/- The walk of the reference's root over digests. -/
import Derived.Test.YtkabinicmdcbpaaDoorMerD
import Derived.Test.YtkabinicmdcbpaaDoorTextC
import Derived.Test.YtkabinicmdcbpaaDoorClone
import Derived.Deep.RegionHeld3
namespace Go.Proofs.YtkabinicmdcbpaaDoor
open Go.RowKit
set_option linter.unusedVariables false

theorem half_of_pow {n j : Nat} (h1 : 2 ^ j < n) (h2 : n ≤ 2 * 2 ^ j) : half n = 2 ^ j := by
  unfold half
  congr 1
  have h3 : n - 1 ≠ 0 := by have := Nat.two_pow_pos j; omega
  exact (Nat.log2_eq_iff h3).2 ⟨by omega, by rw [Nat.pow_succ]; omega⟩

set_option maxHeartbeats 1000000 in
theorem refSplit_any (n : Nat) (w : World) (h2 : 2 ≤ n) (hn : n ≤ 1073741824) :
    Calls Tryd.prog 110 #[.int .i64 n] w fun e w' => e = .returned (.int .i64 (half n)) ∧ w = w' := by
  have HH := Lib.hid (fun j h1 h2 => half_of_pow (n := n) (j := j) h1 h2)
  generalize half n = R at *
  go_enter Tryd.func110, Tryd.ntmps110
  go_wp2
  go_loop [3] (fun s => ∃ q : Nat, s = .int .i64 q ∧ q < n ∧ 0 < q ∧ Hid (∃ j, q = 2 ^ j)) (fun s => n - (intOf s).toNat)
  case atStart => exact ⟨1, rfl, by omega, by omega, 0, rfl⟩
  case round =>
    obtain ⟨q, rfl, hq, hq0, hj⟩ := hrel
    by_cases hqn : 2 * q < n
    · have hI : 2 * (q : Int) < (n : Int) := by omega
      go_wp2
      go_round
      case rel => exact ⟨2 * q, by go_num, hqn, by omega, by obtain ⟨j, rfl⟩ := hj.out; exact ⟨j + 1, by rw [Nat.pow_succ]; omega⟩⟩
      case measure => simp [intOf]; omega
    · have hI : ¬ 2 * (q : Int) < (n : Int) := by omega
      have HR : Hid (R = q) := by obtain ⟨j, rfl⟩ := hj.out; exact HH.out j hq (by omega)
      go_wp2
      go_ret
      exact ⟨by rw [HR.out]; rfl, rfl⟩

set_option maxHeartbeats 400000 in
theorem refRoot1_any (size : Int) (v : Value) (bs : List Int) (w : World) (hn : bs.length ≤ 140737488351232) (h : Sls w v [bs]) :
    Calls Tryd.prog 83 #[.int .i64 size, v] w fun e w' => ∃ x, e = .returned x ∧ Sl w' x (bs.map (Value.int .u8)) ∧ Below w.heap.size w w' := by
  obtain ⟨a, cap, rfl, hc, hm⟩ := h.shape
  obtain ⟨b, off, rfl, hb, u, hu, hs⟩ := h.at (k := 0) (by simp)
  simp only [List.getD_cons_zero, List.length_cons, List.length_nil, Nat.zero_add, Nat.add_zero] at *
  obtain ⟨i0, hi, hz0, hz1, hz2⟩ := info_parts info8c
  have hown0 : (w.alloc (.cells #[] 5)).ownsRow w.heap.size 5 1 (.slice (some ⟨w.heap.size, 0, none⟩) 0 0) 0 [] :=
    World.ownsRow_lit (base := w.heap.size) (e := 5) (size := 1) w #[] 0 (Nat.le_refl _) (by simp [maxLen]) (by simp)
  have hb0 : Below w.heap.size w (w.alloc (.cells #[] 5)) := (Below.refl _ _).alloc (Nat.le_refl _) _
  have hs1 := hs.below hb0 (Nat.le_refl _)
  have HN := Lib.hid hn
  have hu1 : (w.alloc (.cells #[] 5)).cell? ⟨b, off, none⟩ = some u := (hb0.cell (p := ⟨b, off, none⟩) hb).trans hu
  obtain ⟨ua, uc, rfl, _, _⟩ := hs1.shape
  simp only [List.length_map] at *
  clear hs h hn hu
  go_enter Tryd.func83, Tryd.ntmps83
  go_wp2_with (at_builtin; go_loud (refine wpList_append_sl rfl _ _ 22 rfl w.heap.size 5 i0 (.int .u8 0) 1 Tryd.underlying22 hi hz0 hz1 hz2 rfl _ 0 [] rfl hown0 (.slice ua bs.length uc) (bs.map (Value.int .u8)) rfl hs1 (one8 _) (by have := HN.out; rw [List.length_map]; unfold maxLen; omega) (by have := HN.out; rw [List.length_map]; omega) (by simp) ?_))
  intro v1 w4 hown1 hg4
  have hb4 := below_grown hb0 hown0 (Nat.le_refl _) (by simp) hg4
  clear hg4 hown0
  go_wp2
  go_ret
  exact ⟨_, rfl, by simpa using Sl.of_owns hown1, hb4⟩

set_option maxRecDepth 100000 in
set_option maxHeartbeats 1000000 in
theorem refRoot_any (size : Int) : ∀ (m : Nat) (l : List (List Int)), l.length ≤ m → ∀ (v : Value) (w : World), l.length ≤ 1073741824 → (∀ p ∈ l, IsB p) → (∀ p ∈ l, p.length ≤ 140737488351232) → Sls w v l →
    Calls Tryd.prog 83 #[.int .i64 size, v] w fun e w' => ∃ x, e = .returned x ∧ Sl w' x ((rootI size l).map (Value.int .u8)) ∧ Below w.heap.size w w' := by
  intro m
  induction m with
  | zero =>
    intro l hl v w hlen hB hP hs
    obtain rfl : l = [] := List.length_eq_zero_iff.1 (by omega)
    obtain ⟨a, c, rfl, _, _⟩ := hs.shape
    have HH := Lib.hid (refHash_any size 0 (.slice none 0 0) [] w (by simp) (by decide) (by decide) ⟨[], Sl.nil _, rfl, fun i u bs hu _ => by simp at hu⟩ (by simp))
    rw [rootI_zero]
    clear hs
    go_enter Tryd.func83, Tryd.ntmps83
    go_wp2_with fail
    refine HH.out.mono ?_
    rintro e w5 ⟨y, rfl, hy, hb5⟩
    go_wp2
    go_ret
    exact ⟨_, rfl, hy, hb5⟩
  | succ m ih =>
    intro l hl v w hlen hB hP hs
    by_cases h2 : 2 ≤ l.length
    · have hk1 := half_lt l.length h2
      have hk2 := half_pos l.length
      have HR := Lib.hid (rootI_two size l h2)
      obtain ⟨a, c, rfl, hc, hm⟩ := hs.shape
      obtain ⟨b, off, rfl, hbl, _⟩ := hs.at (k := 0) (by omega)
      have hst := hs.take (half l.length) (by omega)
      have hsd := hs.drop (half l.length) (by omega)
      have hne : ¬ c = half l.length := by omega
      rw [if_neg hne, Option.map_some] at hsd
      have HT := Lib.hid (fun w1 (h : Below w.heap.size w w1) => ih (l.take (half l.length)) (by rw [List.length_take]; omega) _ w1 (by rw [List.length_take]; omega) (fun p hp => hB p (List.mem_of_mem_take hp)) (fun p hp => hP p (List.mem_of_mem_take hp)) (hst.below h (Nat.le_refl _)))
      have HD := Lib.hid (fun w1 (h : Below w.heap.size w w1) => ih (l.drop (half l.length)) (by rw [List.length_drop]; omega) _ w1 (by rw [List.length_drop]; omega) (fun p hp => hB p (List.mem_of_mem_drop hp)) (fun p hp => hP p (List.mem_of_mem_drop hp)) (hsd.below h (Nat.le_refl _)))
      have HB1 := Lib.hid (rootI_isB size (l.take (half l.length)) (fun p hp => hB p (List.mem_of_mem_take hp)))
      have HB2 := Lib.hid (rootI_isB size (l.drop (half l.length)) (fun p hp => hB p (List.mem_of_mem_drop hp)))
      have HSP := Lib.hid (refSplit_any l.length w h2 hlen)
      generalize rootI size (l.take (half l.length)) = R1 at *
      generalize rootI size (l.drop (half l.length)) = R2 at *
      generalize half l.length = k at *
      have hkI : (k : Int) ≤ (l.length : Int) := by omega
      have hkI0 : (0 : Int) ≤ (k : Int) := by omega
      have hkc : k ≤ c := by omega
      have hkcI : (k : Int) ≤ (c : Int) := by omega
      have hn0 : ¬ (l.length : Int) = 0 := by omega
      have hn1 : ¬ (l.length : Int) = 1 := by omega
      clear hst hsd ih hB hP hs
      go_enter Tryd.func83, Tryd.ntmps83
      go_wp2_with fail
      refine HSP.out.mono ?_
      rintro e w1 ⟨rfl, rfl⟩
      go_wp2
      go_region_held3 (fun w' => True) (exact trivial)
        (first | (go_at_call 82; refine (refHash_any size 4 _ [R1, R2] _ (by simp) (by omega) (by omega) (by exact HLT.out) (by intro q hq; simp at hq; rcases hq with rfl | rfl; exact HB1.out; exact HB2.out)).mono ?_; rintro e w3 ⟨x3, rfl, hx3, hb3⟩) | (go_at_call 83; refine (HD.out _ hb1).mono ?_; rintro e w2 ⟨x2, rfl, hx2, hb2⟩; have hx1 := hx1.below hb2 (Nat.le_refl _); have hb2 : Below w.heap.size w w2 := below_trans2 hb1 hb2; obtain ⟨x2a, x2n, x2c, rfl⟩ := hx2.val; have HLT := Lib.hid (Sls.litA [.slice x1a x1n x1c, .slice x2a x2n x2c] 22 (show SlAll w2 [.slice x1a x1n x1c, .slice x2a x2n x2c] [R1, R2] from ⟨hx1, hx2, trivial⟩) (by simp [maxLen]))) | (go_at_call 83; refine (HT.out _ (by first | exact Below.refl _ _ | exact (Below.refl _ _).drew)).mono ?_; rintro e w1 ⟨x1, rfl, hx1, hb1⟩; have hb1 : Below w.heap.size w w1 := ⟨hb1.os, hb1.tape, hb1.output, hb1.size, hb1.block⟩; obtain ⟨x1a, x1n, x1c, rfl⟩ := hx1.val))
      go_wp2
      go_ret
      exact ⟨_, rfl, by rw [HR.out]; exact hx3, below_trans2 (hb2.alloc hb2.size _) hb3⟩
    · by_cases h1 : l.length = 1
      · obtain ⟨p, rfl⟩ := List.length_eq_one_iff.1 h1
        rw [rootI_one]
        exact refRoot1_any size v p w (hP p (by simp)) hs
      · obtain rfl : l = [] := List.length_eq_zero_iff.1 (by omega)
        exact ih [] (by simp) v w hlen hB hP hs

end Go.Proofs.YtkabinicmdcbpaaDoor
