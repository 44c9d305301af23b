/- The walks of Leaf and Leaves, of the program and of the reference. The walk of the reference's root over digests. The walks of Leaves and List, of the program and of the reference. make([]byte, n), and copy onto it. Conditions: none. The walks of the program's Leaves, of both Lists. -/
import Derived.Test.YtililoojjfcfgaaDoorFcG
import Derived.Test.YtililoojjfcfgaaDoorTextC
import Derived.Test.YtililoojjfcfgaaDoorClone
import Derived.Test.YtililoojjfcfgaaDoorFcA
import Derived.Test.YtililoojjfcfgaaDoorMerEM
import Derived.Test.YtililoojjfcfgaaDoorFcH
import Derived.Deep.RegionHeld3
import Derived.Deep.OwnRows
import Derived.Laws.OwnMore
import Derived.Laws.CopyOwn
namespace Go.Proofs.YtililoojjfcfgaaDoor
open Go.RowKit
set_option linter.unusedVariables false

def leafI (size : Int) (p : Chg) : List Int := hashT size 3 [p.1, p.2]
theorem leafI_isB (size : Int) (p : Chg) : IsB (leafI size p) := hashT_isB' size 3 _

set_option maxRecDepth 100000 in
set_option maxHeartbeats 1000000 in
theorem leaf_any (size : Int) (v : Value) (p : Chg) (w : World) (hB : IsB p.1 ∧ IsB p.2) (h : Bd w v p) (ht : Tabs w) :
    Calls Tryd.prog 109 #[.int .i64 size, v] w fun e w' => ∃ x, e = .returned x ∧ Sl w' x ((leafI size p).map (Value.int .u8)) ∧ Below w.heap.size w w' := by
  obtain ⟨p1, p2⟩ := p
  obtain ⟨i, k, rfl, s1, s2⟩ := h
  obtain ⟨ia, ic, rfl, _, _⟩ := s1.shape
  obtain ⟨ka, kc, rfl, _, _⟩ := s2.shape
  simp only [List.length_map] at *
  have hb1 : Below w.heap.size w (w.alloc (.cells #[.slice ia p1.length ic, .slice ka p2.length kc] 151)) := (Below.refl _ _).alloc (Nat.le_refl _) _
  have s1 := s1.below hb1 (Nat.le_refl _)
  have s2 := s2.below hb1 (Nat.le_refl _)
  have ht1 := ht.below hb1
  have hsz : (w.alloc (.cells #[.slice ia p1.length ic, .slice ka p2.length kc] 151)).heap.size = w.heap.size + 1 := by simp
  have HT := Lib.hid (Sls.litA [.slice ia p1.length ic, .slice ka p2.length kc] 22 (show SlAll _ [.slice ia p1.length ic, .slice ka p2.length kc] [p1, p2] from ⟨s1, s2, trivial⟩) (by simp [maxLen]))
  have hb2 := hb1.alloc hb1.size (.cells #[.slice ia p1.length ic, .slice ka p2.length kc] 22)
  have ht2 := ht.below hb2
  rw [hsz] at HT
  have HBB := Lib.hid hB
  clear s1 s2 ht1 hb1 hsz hB ht
  go_enter Tryd.func109, Tryd.ntmps109
  go_wp2_with fail
  generalize (w.alloc (.cells #[.slice ia p1.length ic, .slice ka p2.length kc] 151)) = w1 at *
  refine (hash_any size 3 _ [p1, p2] _ (by simp) (by omega) (by omega) HT.out (by intro q hq; simp at hq; rcases hq with rfl | rfl; exact HBB.out.1; exact HBB.out.2) ht2).mono ?_
  rintro e w3 ⟨x, rfl, hx, hb3⟩
  go_wp2
  go_ret
  exact ⟨_, rfl, hx, below_trans2 hb2 hb3⟩

set_option maxRecDepth 100000 in
set_option maxHeartbeats 1000000 in
theorem refLeaf_any (size : Int) (v : Value) (p : Chg) (w : World) (hB : IsB p.1 ∧ IsB p.2) (h : Bd w v p) :
    Calls Tryd.prog 113 #[.int .i64 size, v] w fun e w' => ∃ x, e = .returned x ∧ Sl w' x ((leafI size p).map (Value.int .u8)) ∧ Below w.heap.size w w' := by
  obtain ⟨p1, p2⟩ := p
  obtain ⟨i, k, rfl, s1, s2⟩ := h
  obtain ⟨ia, ic, rfl, _, _⟩ := s1.shape
  obtain ⟨ka, kc, rfl, _, _⟩ := s2.shape
  simp only [List.length_map] at *
  have hb1 : Below w.heap.size w (w.alloc (.cells #[.slice ia p1.length ic, .slice ka p2.length kc] 151)) := (Below.refl _ _).alloc (Nat.le_refl _) _
  have s1 := s1.below hb1 (Nat.le_refl _)
  have s2 := s2.below hb1 (Nat.le_refl _)
  have hsz : (w.alloc (.cells #[.slice ia p1.length ic, .slice ka p2.length kc] 151)).heap.size = w.heap.size + 1 := by simp
  have HT := Lib.hid (Sls.litA [.slice ia p1.length ic, .slice ka p2.length kc] 22 (show SlAll _ [.slice ia p1.length ic, .slice ka p2.length kc] [p1, p2] from ⟨s1, s2, trivial⟩) (by simp [maxLen]))
  have hb2 := hb1.alloc hb1.size (.cells #[.slice ia p1.length ic, .slice ka p2.length kc] 22)
  rw [hsz] at HT
  have HBB := Lib.hid hB
  clear s1 s2 hb1 hsz hB
  go_enter Tryd.func113, Tryd.ntmps113
  go_wp2_with fail
  generalize (w.alloc (.cells #[.slice ia p1.length ic, .slice ka p2.length kc] 151)) = w1 at *
  refine (refHash_any size 3 _ [p1, p2] _ (by simp) (by omega) (by omega) HT.out (by intro q hq; simp at hq; rcases hq with rfl | rfl; exact HBB.out.1; exact HBB.out.2)).mono ?_
  rintro e w3 ⟨x, rfl, hx, hb3⟩
  go_wp2
  go_ret
  exact ⟨_, rfl, hx, below_trans2 hb2 hb3⟩

end Go.Proofs.YtililoojjfcfgaaDoor

namespace Go.Proofs.YtililoojjfcfgaaDoor
open Go.RowKit
set_option linter.unusedVariables false

theorem half_of_pow {n j : Nat} (h1 : 2 ^ j < n) (h2 : n ≤ 2 * 2 ^ j) : half n = 2 ^ j := by
  unfold half
  congr 1
  have h3 : n - 1 ≠ 0 := by have := Nat.two_pow_pos j; omega
  exact (Nat.log2_eq_iff h3).2 ⟨by omega, by rw [Nat.pow_succ]; omega⟩

set_option maxHeartbeats 1000000 in
theorem refSplit_any (n : Nat) (w : World) (h2 : 2 ≤ n) (hn : n ≤ 1073741824) :
    Calls Tryd.prog 111 #[.int .i64 n] w fun e w' => e = .returned (.int .i64 (half n)) ∧ w = w' := by
  have HH := Lib.hid (fun j h1 h2 => half_of_pow (n := n) (j := j) h1 h2)
  generalize half n = R at *
  go_enter Tryd.func111, Tryd.ntmps111
  go_wp2
  go_loop [3] (fun s => ∃ q : Nat, s = .int .i64 q ∧ q < n ∧ 0 < q ∧ Hid (∃ j, q = 2 ^ j)) (fun s => n - (intOf s).toNat)
  case atStart => exact ⟨1, rfl, by omega, by omega, 0, rfl⟩
  case round =>
    obtain ⟨q, rfl, hq, hq0, hj⟩ := hrel
    by_cases hqn : 2 * q < n
    · have hI : 2 * (q : Int) < (n : Int) := by omega
      go_wp2
      go_round
      case rel => exact ⟨2 * q, by go_num, hqn, by omega, by obtain ⟨j, rfl⟩ := hj.out; exact ⟨j + 1, by rw [Nat.pow_succ]; omega⟩⟩
      case measure => simp [intOf]; omega
    · have hI : ¬ 2 * (q : Int) < (n : Int) := by omega
      have HR : Hid (R = q) := by obtain ⟨j, rfl⟩ := hj.out; exact HH.out j hq (by omega)
      go_wp2
      go_ret
      exact ⟨by rw [HR.out]; rfl, rfl⟩

set_option maxHeartbeats 400000 in
theorem refRoot1_any (size : Int) (v : Value) (bs : List Int) (w : World) (hn : bs.length ≤ 140737488351232) (h : Sls w v [bs]) :
    Calls Tryd.prog 110 #[.int .i64 size, v] w fun e w' => ∃ x, e = .returned x ∧ Sl w' x (bs.map (Value.int .u8)) ∧ Below w.heap.size w w' := by
  obtain ⟨a, cap, rfl, hc, hm⟩ := h.shape
  obtain ⟨b, off, rfl, hb, u, hu, hs⟩ := h.at (k := 0) (by simp)
  simp only [List.getD_cons_zero, List.length_cons, List.length_nil, Nat.zero_add, Nat.add_zero] at *
  obtain ⟨i0, hi, hz0, hz1, hz2⟩ := info_parts info8c
  have hown0 : (w.alloc (.cells #[] 5)).ownsRow w.heap.size 5 1 (.slice (some ⟨w.heap.size, 0, none⟩) 0 0) 0 [] :=
    World.ownsRow_lit (base := w.heap.size) (e := 5) (size := 1) w #[] 0 (Nat.le_refl _) (by simp [maxLen]) (by simp)
  have hb0 : Below w.heap.size w (w.alloc (.cells #[] 5)) := (Below.refl _ _).alloc (Nat.le_refl _) _
  have hs1 := hs.below hb0 (Nat.le_refl _)
  have HN := Lib.hid hn
  have hu1 : (w.alloc (.cells #[] 5)).cell? ⟨b, off, none⟩ = some u := (hb0.cell (p := ⟨b, off, none⟩) hb).trans hu
  obtain ⟨ua, uc, rfl, _, _⟩ := hs1.shape
  simp only [List.length_map] at *
  clear hs h hn hu
  go_enter Tryd.func110, Tryd.ntmps110
  go_wp2_with (at_builtin; go_loud (refine wpList_append_sl rfl _ _ 22 rfl w.heap.size 5 i0 (.int .u8 0) 1 Tryd.underlying22 hi hz0 hz1 hz2 rfl _ 0 [] rfl hown0 (.slice ua bs.length uc) (bs.map (Value.int .u8)) rfl hs1 (one8 _) (by have := HN.out; rw [List.length_map]; unfold maxLen; omega) (by have := HN.out; rw [List.length_map]; omega) (by simp) ?_))
  intro v1 w4 hown1 hg4
  have hb4 := below_grown hb0 hown0 (Nat.le_refl _) (by simp) hg4
  clear hg4 hown0
  go_wp2
  go_ret
  exact ⟨_, rfl, by simpa using Sl.of_owns hown1, hb4⟩

set_option maxRecDepth 100000 in
set_option maxHeartbeats 1000000 in
theorem refRoot_any (size : Int) : ∀ (m : Nat) (l : List (List Int)), l.length ≤ m → ∀ (v : Value) (w : World), l.length ≤ 1073741824 → (∀ p ∈ l, IsB p) → (∀ p ∈ l, p.length ≤ 140737488351232) → Sls w v l →
    Calls Tryd.prog 110 #[.int .i64 size, v] w fun e w' => ∃ x, e = .returned x ∧ Sl w' x ((rootI size l).map (Value.int .u8)) ∧ Below w.heap.size w w' := by
  intro m
  induction m with
  | zero =>
    intro l hl v w hlen hB hP hs
    obtain rfl : l = [] := List.length_eq_zero_iff.1 (by omega)
    obtain ⟨a, c, rfl, _, _⟩ := hs.shape
    have HH := Lib.hid (refHash_any size 0 (.slice none 0 0) [] w (by simp) (by decide) (by decide) ⟨[], Sl.nil _, rfl, fun i u bs hu _ => by simp at hu⟩ (by simp))
    rw [rootI_zero]
    clear hs
    go_enter Tryd.func110, Tryd.ntmps110
    go_wp2_with fail
    refine HH.out.mono ?_
    rintro e w5 ⟨y, rfl, hy, hb5⟩
    go_wp2
    go_ret
    exact ⟨_, rfl, hy, hb5⟩
  | succ m ih =>
    intro l hl v w hlen hB hP hs
    by_cases h2 : 2 ≤ l.length
    · have hk1 := half_lt l.length h2
      have hk2 := half_pos l.length
      have HR := Lib.hid (rootI_two size l h2)
      obtain ⟨a, c, rfl, hc, hm⟩ := hs.shape
      obtain ⟨b, off, rfl, hbl, _⟩ := hs.at (k := 0) (by omega)
      have hst := hs.take (half l.length) (by omega)
      have hsd := hs.drop (half l.length) (by omega)
      have hne : ¬ c = half l.length := by omega
      rw [if_neg hne, Option.map_some] at hsd
      have HT := Lib.hid (fun w1 (h : Below w.heap.size w w1) => ih (l.take (half l.length)) (by rw [List.length_take]; omega) _ w1 (by rw [List.length_take]; omega) (fun p hp => hB p (List.mem_of_mem_take hp)) (fun p hp => hP p (List.mem_of_mem_take hp)) (hst.below h (Nat.le_refl _)))
      have HD := Lib.hid (fun w1 (h : Below w.heap.size w w1) => ih (l.drop (half l.length)) (by rw [List.length_drop]; omega) _ w1 (by rw [List.length_drop]; omega) (fun p hp => hB p (List.mem_of_mem_drop hp)) (fun p hp => hP p (List.mem_of_mem_drop hp)) (hsd.below h (Nat.le_refl _)))
      have HB1 := Lib.hid (rootI_isB size (l.take (half l.length)) (fun p hp => hB p (List.mem_of_mem_take hp)))
      have HB2 := Lib.hid (rootI_isB size (l.drop (half l.length)) (fun p hp => hB p (List.mem_of_mem_drop hp)))
      have HSP := Lib.hid (refSplit_any l.length w h2 hlen)
      generalize rootI size (l.take (half l.length)) = R1 at *
      generalize rootI size (l.drop (half l.length)) = R2 at *
      generalize half l.length = k at *
      have hkI : (k : Int) ≤ (l.length : Int) := by omega
      have hkI0 : (0 : Int) ≤ (k : Int) := by omega
      have hkc : k ≤ c := by omega
      have hkcI : (k : Int) ≤ (c : Int) := by omega
      have hn0 : ¬ (l.length : Int) = 0 := by omega
      have hn1 : ¬ (l.length : Int) = 1 := by omega
      clear hst hsd ih hB hP hs
      go_enter Tryd.func110, Tryd.ntmps110
      go_wp2_with fail
      refine HSP.out.mono ?_
      rintro e w1 ⟨rfl, rfl⟩
      go_wp2
      go_region_held3 (fun w' => True) (exact trivial)
        (first | (go_at_call 90; refine (refHash_any size 4 _ [R1, R2] _ (by simp) (by omega) (by omega) (by exact HLT.out) (by intro q hq; simp at hq; rcases hq with rfl | rfl; exact HB1.out; exact HB2.out)).mono ?_; rintro e w3 ⟨x3, rfl, hx3, hb3⟩) | (go_at_call 110; refine (HD.out _ hb1).mono ?_; rintro e w2 ⟨x2, rfl, hx2, hb2⟩; have hx1 := hx1.below hb2 (Nat.le_refl _); have hb2 : Below w.heap.size w w2 := below_trans2 hb1 hb2; obtain ⟨x2a, x2n, x2c, rfl⟩ := hx2.val; have HLT := Lib.hid (Sls.litA [.slice x1a x1n x1c, .slice x2a x2n x2c] 22 (show SlAll w2 [.slice x1a x1n x1c, .slice x2a x2n x2c] [R1, R2] from ⟨hx1, hx2, trivial⟩) (by simp [maxLen]))) | (go_at_call 110; refine (HT.out _ (by first | exact Below.refl _ _ | exact (Below.refl _ _).drew)).mono ?_; rintro e w1 ⟨x1, rfl, hx1, hb1⟩; have hb1 : Below w.heap.size w w1 := ⟨hb1.os, hb1.tape, hb1.output, hb1.size, hb1.block⟩; obtain ⟨x1a, x1n, x1c, rfl⟩ := hx1.val))
      go_wp2
      go_ret
      exact ⟨_, rfl, by rw [HR.out]; exact hx3, below_trans2 (hb2.alloc hb2.size _) hb3⟩
    · by_cases h1 : l.length = 1
      · obtain ⟨p, rfl⟩ := List.length_eq_one_iff.1 h1
        rw [rootI_one]
        exact refRoot1_any size v p w (hP p (by simp)) hs
      · obtain rfl : l = [] := List.length_eq_zero_iff.1 (by omega)
        exact ih [] (by simp) v w hlen hB hP hs

end Go.Proofs.YtililoojjfcfgaaDoor

namespace Go.Proofs.YtililoojjfcfgaaDoor
open Go.RowKit
set_option linter.unusedVariables false

def leavesI (size : Int) (l : List Chg) : List (List Int) := l.map (leafI size)
theorem leavesI_isB (size : Int) (l : List Chg) : ∀ p ∈ leavesI size l, IsB p := fun p hp => by
  obtain ⟨q, _, rfl⟩ := List.mem_map.1 hp; exact leafI_isB size q
theorem leaves_step (size : Int) (l : List Chg) (k : Nat) (hk : k < l.length) : leavesI size (l.take (k + 1)) = leavesI size (l.take k) ++ [leafI size (l.getD k ([], []))] := by
  unfold leavesI
  rw [List.take_succ_eq_append_getElem hk, List.map_append, List.getD_eq_getElem?_getD, List.getElem?_eq_getElem hk]; rfl

set_option maxRecDepth 100000 in
set_option maxHeartbeats 1000000 in
theorem refLeaves_any (size : Int) (v : Value) (l : List Chg) (w : World) (hl : l.length ≤ 1000000) (hB : ∀ p ∈ l, IsB p.1 ∧ IsB p.2) (hs : Bds w v l) :
    Calls Tryd.prog 66 #[.int .i64 size, v] w fun e w' => ∃ x, e = .returned x ∧ OSls w' w.heap.size x (leavesI size l) ∧ Below w.heap.size w w' := by
  obtain ⟨a, cap, rfl, hc, hm⟩ := hs.shape
  have HB := Lib.hid hB
  clear hB
  go_enter Tryd.func66, Tryd.ntmps66
  go_wp2
  go_loopw [5, 10] (fun o i wr => ∃ (k : Nat) (ov : Value), ov = o ∧ k ≤ l.length ∧ i = .int .i64 k ∧ OSls wr w.heap.size ov (leavesI size (l.take k)) ∧ Below w.heap.size w wr) (fun _ i _ => l.length - (intOf i).toNat)
  case atStart => exact ⟨0, _, rfl, by omega, rfl, OSls.nil _ _, Below.refl _ _⟩
  case round =>
    obtain ⟨k, ov, rfl, hk, rfl, hO, hbr⟩ := hrel
    by_cases hlt : k < l.length
    · have hkI : (k : Int) < (l.length : Int) := by omega
      obtain ⟨b, off, rfl, hbl, u1, u2, c1, c2, s1, s2⟩ := hs.at hlt
      have c1 : wr.cell? ⟨b, off + k * 2, none⟩ = some u1 := (hbr.cell (p := ⟨b, off + k * 2, none⟩) hbl).trans c1
      have c2 : wr.cell? ⟨b, off + k * 2 + 1, none⟩ = some u2 := (hbr.cell (p := ⟨b, off + k * 2 + 1, none⟩) hbl).trans c2
      have s1 := s1.below hbr (Nat.le_refl _)
      have s2 := s2.below hbr (Nat.le_refl _)
      have HST := Lib.hid (leaves_step size l k hlt)
      have HLN := Lib.hid (show (leavesI size (l.take k)).length + 1 ≤ 5000000000000 by unfold leavesI; rw [List.length_map, List.length_take]; omega)
      have HBP : Hid (IsB (l.getD k ([], [])).1 ∧ IsB (l.getD k ([], [])).2) := by
        rw [List.getD_eq_getElem?_getD, List.getElem?_eq_getElem hlt]; exact HB.out _ (List.getElem_mem hlt)
      generalize l.getD k ([], []) = P at *
      obtain ⟨xa, xn, xc, rfl⟩ := s1.val
      obtain ⟨ya, yn, yc, rfl⟩ := s2.val
      have hbA : Below wr.heap.size wr (wr.alloc (.cells #[.slice xa xn xc, .slice ya yn yc] 151)) := (Below.refl _ _).alloc (Nat.le_refl _) _
      have HLF := Lib.hid (refLeaf_any size (.agg #[.slice xa xn xc, .slice ya yn yc]) P _ HBP.out ⟨_, _, rfl, s1.below hbA (Nat.le_refl _), s2.below hbA (Nat.le_refl _)⟩)
      have hO := hO.below hbA
      have hbr := hbr.trans (hbA.mono hbr.size)
      clear s1 s2 hbA
      go_wp2_with fail
      refine HLF.out.mono ?_
      generalize (wr.alloc (.cells #[.slice xa xn xc, .slice ya yn yc] 151)) = wA at *
      rintro e w2 ⟨x, rfl, hx, hb2⟩
      obtain ⟨ra, rn, rc, rfl⟩ := hx.val
      have hO := hO.below hb2
      have hbr := hbr.trans (hb2.mono hbr.size)
      have hbB : Below w2.heap.size w2 (w2.alloc (.cells #[.slice ra rn rc] 22)) := (Below.refl _ _).alloc (Nat.le_refl _) _
      have hO := hO.below hbB
      have hx := hx.below hbB (Nat.le_refl _)
      have hbr := hbr.trans (hbB.mono hbr.size)
      have hc2 := (Blk.new w2 22 #[.slice ra rn rc]).cell 0
      clear hb2 hbB
      go_wp2_with (at_builtin; refine wpList_append_text rfl _ _ rfl w.heap.size _ _ rfl hO w2.heap.size 1 rfl (.slice ra rn rc) hc2 _ hx HLN.out hbr.size ?_)
      intro l5 w5 hO5 hb5 hg5
      have hbr := hbr.trans hb5
      clear hg5 hb5 hO hx hc2
      go_wp2
      exact ⟨⟨k + 1, l5, rfl, by omega, by go_num, by rw [HST.out]; exact hO5, hbr⟩, by simp [intOf]; omega⟩
    · obtain rfl : k = l.length := by omega
      have hkI : ¬ (l.length : Int) < (l.length : Int) := by omega
      rw [List.take_length] at hO
      go_wp2
      go_ret
      exact ⟨_, rfl, hO, hbr⟩

end Go.Proofs.YtililoojjfcfgaaDoor

namespace Go.Proofs.YtililoojjfcfgaaDoor
open Go.RowKit
set_option linter.unusedVariables false

theorem run_make_bytes (n : Nat) (hn : n ≤ 140737488355328) (w : World) :
    (Instr.makeSlice 22 (.int .i64 n) (.int .i64 n)).run Tryd.prog w = .ok (.slice (some ⟨w.heap.size, 0, none⟩) n n) (w.alloc (.cells (Array.replicate n (Value.int .u8 0)) 5)) := by
  have h := run_make_row' (P := Tryd.prog) 22 5 (.int .u8 0) 1 Tryd.underlying22 (by kernel_rfl) rfl .i64 .i64 n (by omega) (by omega) w
  rw [h]
  have e : madeCells #[.int .u8 0] n = Array.replicate n (Value.int .u8 0) := by
    apply Array.ext'
    rw [toList_madeCells_one]
    simp
  rw [e]

/-- The first n of some bytes, noughts behind them. -/
def padTo (n : Nat) (b : List Int) : List Int := b.take n ++ List.replicate (n - b.length) 0
theorem padTo_len (n : Nat) (b : List Int) : (padTo n b).length = n := by simp [padTo]; omega
theorem padTo_isB {b : List Int} (h : IsB b) (n : Nat) : IsB (padTo n b) := (h.take n).append (fun x hx => by rw [List.eq_of_mem_replicate hx]; omega)

theorem infoSize8 : (Tryd.prog.info? 5).map (·.size) = some 1 := by kernel_rfl

theorem Sl.ofBlk {w : World} {g : Nat} {t : TypeId} {xs : List Value} (h : Blk w g t xs.toArray) (n : Nat) (hn : n = xs.length) (hm : xs.length ≤ maxLen) : Sl w (.slice (some ⟨g, 0, none⟩) n n) xs := by
  subst hn
  refine ⟨_, xs.length, rfl, Nat.le_refl _, hm, fun hp => ⟨g, 0, rfl, h.lt, fun j u hu => ?_⟩⟩
  rw [h.cell]
  simpa using hu

theorem wpList_copy_pad {w : World} {ops : Array Oper} {rest : List Oper} {o : Oper} {a : Act} {Q : Exit → Act → World → Prop} (hgd : o.guard = none) (d s : Operand)
    (ho : o.op = .call { callee := .builtin .copy, args := #[d, s], argTypes := #[22, 22] })
    (g n cap : Nat) (hd : a.eval d = .slice (some ⟨g, 0, none⟩) n cap) (u : Value) (ys : List Int) (hs : a.eval s = u) (hsl : Sl w u (ys.map (Value.int .u8)))
    (hg0 : Blk w g 5 (Array.replicate n (Value.int .u8 0))) (B : Nat) (w0 : World) (hb : Below B w0 w) (hBg : B ≤ g)
    (h : ∀ w' (k : Int), Hid (Blk w' g 5 (((padTo n ys).map (Value.int .u8)).toArray)) → Below B w0 w' → wpList Tryd.prog ops Q rest (a.put o.dst (.int .i64 k)) w') : wpList Tryd.prog ops Q (o :: rest) a w := by
  have hg : Blk w g 5 (((List.replicate n (0 : Int)).map (Value.int .u8)).toArray) := by
    rw [List.map_replicate, List.toArray_replicate]; exact hg0
  obtain ⟨ua, uc, rfl, h1, h2, h3⟩ := hsl
  rw [List.length_map] at *
  refine wpList_copy_splice hgd d s _ _ ho 5 Tryd.underlying22 infoSize8 (some ⟨g, 0, none⟩) ua n cap ys.length uc hd hs g 0 ((List.replicate n (0 : Int)).map (Value.int .u8)) 5 hg ((ys.take n).map (Value.int .u8))
    (by rw [List.length_map, List.length_take]; exact Nat.min_comm _ _) (fun hp => ⟨rfl, ?_⟩) (by simp; omega) (one8 _) B w0 hb hBg (fun w' hw' hb' => ?_)
  · obtain ⟨b, off, rfl, hlt, hc⟩ := h3 (by simp at hp ⊢; omega)
    refine ⟨_, rfl, fun j v hv => ?_⟩
    rw [add_plain0]
    refine hc j v ?_
    rw [List.getElem?_map, List.getElem?_take] at hv
    rw [List.getElem?_map]
    split at hv
    · exact hv
    · cases hv
  · refine h w' _ ?_ hb'
    have e : splice ((List.replicate n (0 : Int)).map (Value.int .u8)) 0 ((ys.take n).map (Value.int .u8)) = (padTo n ys).map (Value.int .u8) := by
      unfold splice padTo
      rw [List.take_zero, List.nil_append, Nat.zero_add, ← List.map_drop, List.length_map, List.drop_replicate, ← List.map_append]
      congr 3
      simp
      omega
    show Blk w' g _ _
    rw [← e]
    exact hw'.out

end Go.Proofs.YtililoojjfcfgaaDoor

namespace Go.Proofs.YtililoojjfcfgaaDoor
open Go.RowKit
set_option linter.unusedVariables false

theorem run_make_texts (n : Nat) (hn : n ≤ 1000000) (w : World) :
    (Instr.makeSlice 23 (.int .i64 n) (.int .i64 n)).run Tryd.prog w = .ok (.slice (some ⟨w.heap.size, 0, none⟩) n n) (w.alloc (.cells (List.replicate n (Value.slice none 0 0)).toArray 22)) := by
  have h := run_make_row' (P := Tryd.prog) 23 22 (.slice none 0 0) 24 Tryd.underlying23 (by kernel_rfl) rfl .i64 .i64 n (by omega) (by omega) w
  rw [h]
  have e : madeCells #[.slice none 0 0] n = (List.replicate n (Value.slice none 0 0)).toArray := by
    apply Array.ext'
    rw [toList_madeCells_one]
  rw [e]

theorem set_next (us : List Value) (k n : Nat) (z v : Value) (hu : us.length = k) (hk : k < n) : ((us ++ List.replicate (n - k) z).toArray.setIfInBounds k v) = ((us ++ [v]) ++ List.replicate (n - (k + 1)) z).toArray := by
  rw [List.setIfInBounds_toArray]
  congr 1
  rw [show n - k = (n - (k + 1)) + 1 by omega, List.replicate_succ, List.set_append_right _ _ (by omega), hu, Nat.sub_self, List.set_cons_zero, List.append_assoc]; rfl
theorem get_next (us : List Value) (k n : Nat) (z : Value) (hu : us.length = k) (hk : k < n) : (us ++ List.replicate (n - k) z).toArray[k]? = some z := by
  rw [List.getElem?_toArray, List.getElem?_append_right (by omega), hu, Nat.sub_self, List.getElem?_replicate, if_pos (by omega)]
theorem SlAll.notB {w : World} : ∀ {us : List Value} {ps : List (List Int)}, SlAll w us ps → ∀ c ∈ us, notB c
  | [], [], _, c, hc => by simp at hc
  | [], _ :: _, h, _, _ => h.elim
  | _ :: _, [], h, _, _ => h.elim
  | u :: us, p :: ps, h, c, hc => by
    rcases List.mem_cons.1 hc with rfl | hc
    · obtain ⟨a, n, cc, rfl⟩ := h.1.val; exact notB_slice _ _ _
    · exact SlAll.notB h.2 c hc
set_option maxRecDepth 100000 in
set_option maxHeartbeats 1000000 in
theorem leaves_any (size : Int) (v : Value) (l : List Chg) (w : World) (hl : l.length ≤ 1000000) (hB : ∀ p ∈ l, IsB p.1 ∧ IsB p.2) (hs : Bds w v l) (ht : Tabs w) :
    Calls Tryd.prog 64 #[.int .i64 size, v] w fun e w' => ∃ x, e = .returned x ∧ Sls w' x (leavesI size l) ∧ Below w.heap.size w w' := by
  obtain ⟨a, cap, rfl, hc, hm⟩ := hs.shape
  have HB := Lib.hid hB
  clear hB
  have hmk := fun w1 => run_make_texts l.length hl w1
  have hb1 : Below w.heap.size w (w.alloc (.cells (List.replicate l.length (Value.slice none 0 0)).toArray 22)) := (Below.refl _ _).alloc (Nat.le_refl _) _
  have k1 := Blk.new w 22 (List.replicate l.length (Value.slice none 0 0)).toArray
  go_enter Tryd.func64, Tryd.ntmps64
  go_wp2
  go_loopw [12] (fun i wr => ∃ (k : Nat) (us : List Value), k ≤ l.length ∧ i = .int .i64 k ∧ us.length = k ∧ SlAll wr us (leavesI size (l.take k)) ∧ Blk wr w.heap.size 22 (us ++ List.replicate (l.length - k) (Value.slice none 0 0)).toArray ∧ Below w.heap.size w wr) (fun i _ => l.length - (intOf i).toNat)
  case atStart => exact ⟨0, [], by omega, rfl, rfl, trivial, by simpa using k1, hb1⟩
  case round =>
    obtain ⟨k, us, hk, rfl, hul, hS, hK, hbr⟩ := hrel
    by_cases hlt : k < l.length
    · have hkI : (k : Int) < (l.length : Int) := by omega
      obtain ⟨b, off, rfl, hbl, u1, u2, c1, c2, s1, s2⟩ := hs.at hlt
      have c1 : wr.cell? ⟨b, off + k * 2, none⟩ = some u1 := (hbr.cell (p := ⟨b, off + k * 2, none⟩) hbl).trans c1
      have c2 : wr.cell? ⟨b, off + k * 2 + 1, none⟩ = some u2 := (hbr.cell (p := ⟨b, off + k * 2 + 1, none⟩) hbl).trans c2
      have s1 := s1.below hbr (Nat.le_refl _)
      have s2 := s2.below hbr (Nat.le_refl _)
      have HST := Lib.hid (leaves_step size l k hlt)
      have HBP : Hid (IsB (l.getD k ([], [])).1 ∧ IsB (l.getD k ([], [])).2) := by
        rw [List.getD_eq_getElem?_getD, List.getElem?_eq_getElem hlt]; exact HB.out _ (List.getElem_mem hlt)
      generalize l.getD k ([], []) = P at *
      obtain ⟨xa, xn, xc, rfl⟩ := s1.val
      obtain ⟨ya, yn, yc, rfl⟩ := s2.val
      have HLF := Lib.hid (leaf_any size (.agg #[.slice xa xn xc, .slice ya yn yc]) P _ HBP.out ⟨_, _, rfl, s1, s2⟩ (ht.below hbr))
      clear s1 s2 k1 hb1
      go_wp2_with fail
      refine HLF.out.mono ?_
      rintro e w2 ⟨x, rfl, hx, hb2⟩
      obtain ⟨ra, rn, rc, rfl⟩ := hx.val
      have hS := hS.below hb2
      have hK := hK.belowS hb2
      have hbr := hbr.trans (hb2.mono hbr.size)
      have q1 : w2.cell? ⟨w.heap.size, k, none⟩ = some (.slice none 0 0) := (hK.cell k).trans (get_next us k l.length _ hul hlt)
      have q2 : w2.frozen? ⟨w.heap.size, k, none⟩ = false := hK.frozen k
      have HNB : Hid (∀ c ∈ ((us ++ List.replicate (l.length - k) (Value.slice none 0 0)).toArray).toList, notB c) := fun c hc => by
        rcases List.mem_append.1 (show c ∈ us ++ List.replicate (l.length - k) (Value.slice none 0 0) from hc) with h | h
        · exact hS.notB c h
        · rw [List.eq_of_mem_replicate h]; exact notB_slice _ _ _
      have hgS : w2.grownBy (w2.setCell ⟨w.heap.size, k, none⟩ (.slice ra rn rc)) (some w.heap.size) := only_setCell (World.grownBy.refl _ _) (.inl rfl) _
      have hS2 := (hS.keepB hK HNB.out hgS).snoc (hx.keepB hK HNB.out hgS)
      have hK2 := hK.set_ k (.slice ra rn rc)
      rw [set_next us k l.length _ _ hul hlt] at hK2
      have hbr2 := hbr.setCell (p := ⟨w.heap.size, k, none⟩) (Nat.le_refl _) (.slice ra rn rc)
      rw [← HST.out] at hS2
      have HUL := Lib.hid (show (us ++ [Value.slice ra rn rc]).length = k + 1 by simp [hul])
      clear hb2 hS hK hgS hx hul hbr
      go_wp2
      exact ⟨⟨k + 1, us ++ [.slice ra rn rc], by omega, by go_num, HUL.out, hS2, hK2, hbr2⟩, by simp [intOf]; omega⟩
    · obtain rfl : k = l.length := by omega
      have hkI : ¬ (l.length : Int) < (l.length : Int) := by omega
      rw [List.take_length] at hS
      rw [Nat.sub_self, List.replicate_zero, List.append_nil] at hK
      have HR : Hid (Sls wr (.slice (some ⟨w.heap.size, 0, none⟩) l.length l.length) (leavesI size l)) := ⟨us, Sl.ofBlk hK l.length hul.symm (by unfold maxLen; omega), hS.len, fun i u bs hu hp => hS.at i u bs hu hp⟩
      clear hS hK k1 hb1
      go_wp2
      go_ret
      exact ⟨_, rfl, HR.out, hbr⟩

end Go.Proofs.YtililoojjfcfgaaDoor
