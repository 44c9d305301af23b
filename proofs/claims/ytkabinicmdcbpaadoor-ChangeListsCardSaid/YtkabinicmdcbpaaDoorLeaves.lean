/- The walks of Leaves and List, of the program and of the reference. -/
import Derived.Test.YtkabinicmdcbpaaDoorLeaf
import Derived.Test.YtkabinicmdcbpaaDoorRefRoot
namespace Go.Proofs.YtkabinicmdcbpaaDoor
open Go.RowKit
set_option linter.unusedVariables false

def leavesI (size : Int) (l : List Chg) : List (List Int) := l.map (leafI size)
theorem leavesI_isB (size : Int) (l : List Chg) : ∀ p ∈ leavesI size l, IsB p := fun p hp => by
  obtain ⟨q, _, rfl⟩ := List.mem_map.1 hp; exact leafI_isB size q
theorem leaves_step (size : Int) (l : List Chg) (k : Nat) (hk : k < l.length) : leavesI size (l.take (k + 1)) = leavesI size (l.take k) ++ [leafI size (l.getD k ([], []))] := by
  unfold leavesI
  rw [List.take_succ_eq_append_getElem hk, List.map_append, List.getD_eq_getElem?_getD, List.getElem?_eq_getElem hk]; rfl

set_option maxRecDepth 100000 in
set_option maxHeartbeats 1000000 in
theorem refLeaves_any (size : Int) (v : Value) (l : List Chg) (w : World) (hl : l.length ≤ 1000000) (hB : ∀ p ∈ l, IsB p.1 ∧ IsB p.2) (hs : Bds w v l) :
    Calls Tryd.prog 35 #[.int .i64 size, v] w fun e w' => ∃ x, e = .returned x ∧ OSls w' w.heap.size x (leavesI size l) ∧ Below w.heap.size w w' := by
  obtain ⟨a, cap, rfl, hc, hm⟩ := hs.shape
  have HB := Lib.hid hB
  clear hB
  go_enter Tryd.func35, Tryd.ntmps35
  go_wp2
  go_loopw [5, 10] (fun o i wr => ∃ (k : Nat) (ov : Value), ov = o ∧ k ≤ l.length ∧ i = .int .i64 k ∧ OSls wr w.heap.size ov (leavesI size (l.take k)) ∧ Below w.heap.size w wr) (fun _ i _ => l.length - (intOf i).toNat)
  case atStart => exact ⟨0, _, rfl, by omega, rfl, OSls.nil _ _, Below.refl _ _⟩
  case round =>
    obtain ⟨k, ov, rfl, hk, rfl, hO, hbr⟩ := hrel
    by_cases hlt : k < l.length
    · have hkI : (k : Int) < (l.length : Int) := by omega
      obtain ⟨b, off, rfl, hbl, u1, u2, c1, c2, s1, s2⟩ := hs.at hlt
      have c1 : wr.cell? ⟨b, off + k * 2, none⟩ = some u1 := (hbr.cell (p := ⟨b, off + k * 2, none⟩) hbl).trans c1
      have c2 : wr.cell? ⟨b, off + k * 2 + 1, none⟩ = some u2 := (hbr.cell (p := ⟨b, off + k * 2 + 1, none⟩) hbl).trans c2
      have s1 := s1.below hbr (Nat.le_refl _)
      have s2 := s2.below hbr (Nat.le_refl _)
      have HST := Lib.hid (leaves_step size l k hlt)
      have HLN := Lib.hid (show (leavesI size (l.take k)).length + 1 ≤ 5000000000000 by unfold leavesI; rw [List.length_map, List.length_take]; omega)
      have HBP : Hid (IsB (l.getD k ([], [])).1 ∧ IsB (l.getD k ([], [])).2) := by
        rw [List.getD_eq_getElem?_getD, List.getElem?_eq_getElem hlt]; exact HB.out _ (List.getElem_mem hlt)
      generalize l.getD k ([], []) = P at *
      obtain ⟨xa, xn, xc, rfl⟩ := s1.val
      obtain ⟨ya, yn, yc, rfl⟩ := s2.val
      have hbA : Below wr.heap.size wr (wr.alloc (.cells #[.slice xa xn xc, .slice ya yn yc] 47)) := (Below.refl _ _).alloc (Nat.le_refl _) _
      have HLF := Lib.hid (refLeaf_any size (.agg #[.slice xa xn xc, .slice ya yn yc]) P _ HBP.out ⟨_, _, rfl, s1.below hbA (Nat.le_refl _), s2.below hbA (Nat.le_refl _)⟩)
      have hO := hO.below hbA
      have hbr := hbr.trans (hbA.mono hbr.size)
      clear s1 s2 hbA
      go_wp2_with fail
      refine HLF.out.mono ?_
      generalize (wr.alloc (.cells #[.slice xa xn xc, .slice ya yn yc] 47)) = wA at *
      rintro e w2 ⟨x, rfl, hx, hb2⟩
      obtain ⟨ra, rn, rc, rfl⟩ := hx.val
      have hO := hO.below hb2
      have hbr := hbr.trans (hb2.mono hbr.size)
      have hbB : Below w2.heap.size w2 (w2.alloc (.cells #[.slice ra rn rc] 22)) := (Below.refl _ _).alloc (Nat.le_refl _) _
      have hO := hO.below hbB
      have hx := hx.below hbB (Nat.le_refl _)
      have hbr := hbr.trans (hbB.mono hbr.size)
      have hc2 := (Blk.new w2 22 #[.slice ra rn rc]).cell 0
      clear hb2 hbB
      go_wp2_with (at_builtin; refine wpList_append_text rfl _ _ rfl w.heap.size _ _ rfl hO w2.heap.size 1 rfl (.slice ra rn rc) hc2 _ hx HLN.out hbr.size ?_)
      intro l5 w5 hO5 hb5 hg5
      have hbr := hbr.trans hb5
      clear hg5 hb5 hO hx hc2
      go_wp2
      exact ⟨⟨k + 1, l5, rfl, by omega, by go_num, by rw [HST.out]; exact hO5, hbr⟩, by simp [intOf]; omega⟩
    · obtain rfl : k = l.length := by omega
      have hkI : ¬ (l.length : Int) < (l.length : Int) := by omega
      rw [List.take_length] at hO
      go_wp2
      go_ret
      exact ⟨_, rfl, hO, hbr⟩

end Go.Proofs.YtkabinicmdcbpaaDoor
