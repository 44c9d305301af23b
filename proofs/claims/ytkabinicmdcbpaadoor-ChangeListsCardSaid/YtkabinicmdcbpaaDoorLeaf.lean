/- The walks of Leaf and Leaves, of the program and of the reference. -/
import Derived.Test.YtkabinicmdcbpaaDoorBnd
import Derived.Test.YtkabinicmdcbpaaDoorTextC
import Derived.Test.YtkabinicmdcbpaaDoorClone
import Derived.Test.YtkabinicmdcbpaaDoorOwnT
import Derived.Test.YtkabinicmdcbpaaDoorBlk
import Derived.Test.YtkabinicmdcbpaaDoorMerE
namespace Go.Proofs.YtkabinicmdcbpaaDoor
open Go.RowKit
set_option linter.unusedVariables false

def leafI (size : Int) (p : Chg) : List Int := hashT size 3 [p.1, p.2]
theorem leafI_isB (size : Int) (p : Chg) : IsB (leafI size p) := hashT_isB' size 3 _

set_option maxRecDepth 100000 in
set_option maxHeartbeats 1000000 in
theorem leaf_any (size : Int) (v : Value) (p : Chg) (w : World) (hB : IsB p.1 ∧ IsB p.2) (h : Bd w v p) (ht : Tabs w) :
    Calls Tryd.prog 32 #[.int .i64 size, v] w fun e w' => ∃ x, e = .returned x ∧ Sl w' x ((leafI size p).map (Value.int .u8)) ∧ Below w.heap.size w w' := by
  obtain ⟨p1, p2⟩ := p
  obtain ⟨i, k, rfl, s1, s2⟩ := h
  obtain ⟨ia, ic, rfl, _, _⟩ := s1.shape
  obtain ⟨ka, kc, rfl, _, _⟩ := s2.shape
  simp only [List.length_map] at *
  have hb1 : Below w.heap.size w (w.alloc (.cells #[.slice ia p1.length ic, .slice ka p2.length kc] 47)) := (Below.refl _ _).alloc (Nat.le_refl _) _
  have s1 := s1.below hb1 (Nat.le_refl _)
  have s2 := s2.below hb1 (Nat.le_refl _)
  have ht1 := ht.below hb1
  have hsz : (w.alloc (.cells #[.slice ia p1.length ic, .slice ka p2.length kc] 47)).heap.size = w.heap.size + 1 := by simp
  have HT := Lib.hid (Sls.litA [.slice ia p1.length ic, .slice ka p2.length kc] 22 (show SlAll _ [.slice ia p1.length ic, .slice ka p2.length kc] [p1, p2] from ⟨s1, s2, trivial⟩) (by simp [maxLen]))
  have hb2 := hb1.alloc hb1.size (.cells #[.slice ia p1.length ic, .slice ka p2.length kc] 22)
  have ht2 := ht.below hb2
  rw [hsz] at HT
  have HBB := Lib.hid hB
  clear s1 s2 ht1 hb1 hsz hB ht
  go_enter Tryd.func32, Tryd.ntmps32
  go_wp2_with fail
  generalize (w.alloc (.cells #[.slice ia p1.length ic, .slice ka p2.length kc] 47)) = w1 at *
  refine (hash_any size 3 _ [p1, p2] _ (by simp) (by omega) (by omega) HT.out (by intro q hq; simp at hq; rcases hq with rfl | rfl; exact HBB.out.1; exact HBB.out.2) ht2).mono ?_
  rintro e w3 ⟨x, rfl, hx, hb3⟩
  go_wp2
  go_ret
  exact ⟨_, rfl, hx, below_trans2 hb2 hb3⟩

set_option maxRecDepth 100000 in
set_option maxHeartbeats 1000000 in
theorem refLeaf_any (size : Int) (v : Value) (p : Chg) (w : World) (hB : IsB p.1 ∧ IsB p.2) (h : Bd w v p) :
    Calls Tryd.prog 33 #[.int .i64 size, v] w fun e w' => ∃ x, e = .returned x ∧ Sl w' x ((leafI size p).map (Value.int .u8)) ∧ Below w.heap.size w w' := by
  obtain ⟨p1, p2⟩ := p
  obtain ⟨i, k, rfl, s1, s2⟩ := h
  obtain ⟨ia, ic, rfl, _, _⟩ := s1.shape
  obtain ⟨ka, kc, rfl, _, _⟩ := s2.shape
  simp only [List.length_map] at *
  have hb1 : Below w.heap.size w (w.alloc (.cells #[.slice ia p1.length ic, .slice ka p2.length kc] 47)) := (Below.refl _ _).alloc (Nat.le_refl _) _
  have s1 := s1.below hb1 (Nat.le_refl _)
  have s2 := s2.below hb1 (Nat.le_refl _)
  have hsz : (w.alloc (.cells #[.slice ia p1.length ic, .slice ka p2.length kc] 47)).heap.size = w.heap.size + 1 := by simp
  have HT := Lib.hid (Sls.litA [.slice ia p1.length ic, .slice ka p2.length kc] 22 (show SlAll _ [.slice ia p1.length ic, .slice ka p2.length kc] [p1, p2] from ⟨s1, s2, trivial⟩) (by simp [maxLen]))
  have hb2 := hb1.alloc hb1.size (.cells #[.slice ia p1.length ic, .slice ka p2.length kc] 22)
  rw [hsz] at HT
  have HBB := Lib.hid hB
  clear s1 s2 hb1 hsz hB
  go_enter Tryd.func33, Tryd.ntmps33
  go_wp2_with fail
  generalize (w.alloc (.cells #[.slice ia p1.length ic, .slice ka p2.length kc] 47)) = w1 at *
  refine (refHash_any size 3 _ [p1, p2] _ (by simp) (by omega) (by omega) HT.out (by intro q hq; simp at hq; rcases hq with rfl | rfl; exact HBB.out.1; exact HBB.out.2)).mono ?_
  rintro e w3 ⟨x, rfl, hx, hb3⟩
  go_wp2
  go_ret
  exact ⟨_, rfl, hx, below_trans2 hb2 hb3⟩

end Go.Proofs.YtkabinicmdcbpaaDoor
