/- The walks of both Lists, and of the law ChangeLists. -/
import Derived.Test.YtkabinicmdcbpaaDoorLeavesP
import Derived.Test.YtkabinicmdcbpaaDoorChkA
import Derived.Test.YtkabinicmdcbpaaDoorSame
import Derived.Deep.RegionHeld3
namespace Go.Proofs.YtkabinicmdcbpaaDoor
open Go.RowKit
set_option linter.unusedVariables false

theorem leavesI_len (size : Int) (l : List Chg) : ∀ p ∈ leavesI size l, p.length ≤ 140737488351232 := fun p hp => by
  obtain ⟨q, _, rfl⟩ := List.mem_map.1 hp
  have := hashT_len size 3 [q.1, q.2]
  unfold leafI; omega

set_option maxHeartbeats 400000 in
theorem list_any (size : Int) (v : Value) (l : List Chg) (w : World) (hl : l.length ≤ 1000000) (hB : ∀ p ∈ l, IsB p.1 ∧ IsB p.2) (hs : Bds w v l) (ht : Tabs w) :
    Calls Tryd.prog 36 #[.int .i64 size, v] w fun e w' => ∃ x, e = .returned x ∧ Sl w' x ((rootI size (leavesI size l)).map (Value.int .u8)) ∧ Below w.heap.size w w' := by
  have HL := Lib.hid (leaves_any size v l w hl hB hs ht)
  have HR := Lib.hid (fun v w1 hs h => root_any size (leavesI size l).length (leavesI size l) (Nat.le_refl _) v w1 (by unfold leavesI; rw [List.length_map]; omega) (leavesI_isB size l) (leavesI_len size l) hs h)
  generalize rootI size (leavesI size l) = R at *
  generalize leavesI size l = LS at *
  go_enter Tryd.func36, Tryd.ntmps36
  go_wp2_with fail
  refine HL.out.mono ?_
  rintro e w1 ⟨x, rfl, hx, hb1⟩
  go_wp2_with fail
  refine (HR.out _ _ hx (ht.below hb1)).mono ?_
  rintro e w2 ⟨y, rfl, hy, hb2⟩
  go_wp2
  go_ret
  exact ⟨_, rfl, hy, below_trans2 hb1 hb2⟩

set_option maxHeartbeats 400000 in
theorem refList_any (size : Int) (v : Value) (l : List Chg) (w : World) (hl : l.length ≤ 1000000) (hB : ∀ p ∈ l, IsB p.1 ∧ IsB p.2) (hs : Bds w v l) :
    Calls Tryd.prog 37 #[.int .i64 size, v] w fun e w' => ∃ x, e = .returned x ∧ Sl w' x ((rootI size (leavesI size l)).map (Value.int .u8)) ∧ Below w.heap.size w w' := by
  have HL := Lib.hid (refLeaves_any size v l w hl hB hs)
  have HR := Lib.hid (fun v w1 hs => refRoot_any size (leavesI size l).length (leavesI size l) (Nat.le_refl _) v w1 (by unfold leavesI; rw [List.length_map]; omega) (leavesI_isB size l) (leavesI_len size l) hs)
  generalize rootI size (leavesI size l) = R at *
  generalize leavesI size l = LS at *
  go_enter Tryd.func37, Tryd.ntmps37
  go_wp2_with fail
  refine HL.out.mono ?_
  rintro e w1 ⟨x, rfl, hx, hb1⟩
  go_wp2_with fail
  refine (HR.out _ _ hx.sls).mono ?_
  rintro e w2 ⟨y, rfl, hy, hb2⟩
  go_wp2
  go_ret
  exact ⟨_, rfl, hy, below_trans2 hb1 hb2⟩

theorem sameTexts_same (v1 v2 : Value) (ps : List (List Int)) (w : World) (h1 : Sls w v1 ps) (h2 : Sls w v2 ps) (hp : ∀ p ∈ ps, IsB p) :
    Calls Tryd.prog 24 #[v1, v2] w fun e w' => e = .returned (.bool true) ∧ w = w' := by
  have h := sameTexts_any v1 v2 ps ps w h1 h2 hp hp
  rwa [decide_eq_true rfl] at h

set_option maxRecDepth 100000 in
set_option maxHeartbeats 2000000 in
theorem changeLists_walk (size : Int) (vl : Value) (l0 : List Chg) (vb : Value) (b : Chg) (w : World) (ht : Tabs w) (z0 : -9223372036854775808 ≤ size) (z1 : size ≤ 9223372036854775807) (hB0 : ∀ p ∈ l0, IsB p.1 ∧ IsB p.2) (hs0 : Bds w vl l0) (hBb : IsB b.1 ∧ IsB b.2) (hb : Bd w vb b) :
    Calls Tryd.prog 8 #[.int .i64 size, vl, vb] w fun e w' => e = .returned (.bool true) ∧ Below w.heap.size w w' := by
  obtain ⟨b1, b2⟩ := b
  obtain ⟨i, k, rfl, s1, s2⟩ := hb
  obtain ⟨ia, ic, rfl, _, _⟩ := s1.shape
  obtain ⟨ka, kc, rfl, _, _⟩ := s2.shape
  simp only [List.length_map] at *
  have hb1 : Below w.heap.size w (w.alloc (.cells #[.slice ia b1.length ic, .slice ka b2.length kc] 47)) := (Below.refl _ _).alloc (Nat.le_refl _) _
  have kP := Blk.new w 47 #[.slice ia b1.length ic, .slice ka b2.length kc]
  have HF := Lib.hid (few12_any vl l0 _ (hs0.below hb1 (Nat.le_refl _)))
  have hB : ∀ p ∈ l0.take 40, IsB p.1 ∧ IsB p.2 := fun p hp => hB0 p (List.mem_of_mem_take hp)
  have hl : (l0.take 40).length ≤ 1000000 := by rw [List.length_take]; omega
  generalize l0.take 40 = L at *
  have s1 := s1.below hb1 (Nat.le_refl _)
  have s2 := s2.below hb1 (Nat.le_refl _)
  have ht1 := ht.below hb1
  generalize hw1 : (w.alloc (.cells #[.slice ia b1.length ic, .slice ka b2.length kc] 47)) = w1 at *
  have HT := Lib.hid (fun w2 (h : Below w1.heap.size w1 w2) => ht1.below h)
  have HLF := Lib.hid (fun w2 (h : Below w1.heap.size w1 w2) => leaf_any size (.agg #[.slice ia b1.length ic, .slice ka b2.length kc]) (b1, b2) w2 hBb ⟨_, _, rfl, s1.below h (Nat.le_refl _), s2.below h (Nat.le_refl _)⟩ (HT.out _ h))
  have HRF := Lib.hid (fun w2 (h : Below w1.heap.size w1 w2) => refLeaf_any size (.agg #[.slice ia b1.length ic, .slice ka b2.length kc]) (b1, b2) w2 hBb ⟨_, _, rfl, s1.below h (Nat.le_refl _), s2.below h (Nat.le_refl _)⟩)
  have HFB := Lib.hid (leafI_isB size (b1, b2))
  generalize leafI size (b1, b2) = F at *
  have HLS := Lib.hid (fun v w2 (hs : Bds w1 v L) (h : Below w1.heap.size w1 w2) => leaves_any size v L w2 hl hB (hs.below h (Nat.le_refl _)) (HT.out _ h))
  have HRS := Lib.hid (fun v w2 (hs : Bds w1 v L) (h : Below w1.heap.size w1 w2) => refLeaves_any size v L w2 hl hB (hs.below h (Nat.le_refl _)))
  have HLR := Lib.hid (fun v w2 (hs : Bds w1 v L) (h : Below w1.heap.size w1 w2) => list_any size v L w2 hl hB (hs.below h (Nat.le_refl _)) (HT.out _ h))
  have HRR := Lib.hid (fun v w2 (hs : Bds w1 v L) (h : Below w1.heap.size w1 w2) => refList_any size v L w2 hl hB (hs.below h (Nat.le_refl _)))
  have HSB := Lib.hid (leavesI_isB size L)
  have HRB := Lib.hid (rootI_isB size (leavesI size L) (leavesI_isB size L))
  generalize rootI size (leavesI size L) = R at *
  generalize leavesI size L = LS at *
  have HG : Hid (∀ w2, Below w1.heap.size w1 w2 → w2.cell? ⟨w.heap.size, 0, none⟩ = some (.slice ia b1.length ic) ∧ w2.cell? ⟨w.heap.size, 1, none⟩ = some (.slice ka b2.length kc)) := fun w2 h => ⟨(kP.belowS h).cell 0, (kP.belowS h).cell 1⟩
  have hG := Lib.hid (HG.out _ (Below.refl _ _))
  clear s1 s2 ht ht1 kP hs0 hB0 hB hBb hl
  go_enter Tryd.func8, Tryd.ntmps8
  go_wp2_with fail
  refine HF.out.mono ?_
  rintro e w1' ⟨v1, rfl, hs1, rfl⟩
  obtain ⟨a, cap, rfl, _, _⟩ := hs1.shape
  clear hw1 HF
  go_wp2
  go_region_held3 (fun w' => w'.cell? ⟨w.heap.size, 0, none⟩ = some (.slice ia b1.length ic) ∧ w'.cell? ⟨w.heap.size, 1, none⟩ = some (.slice ka b2.length kc)) (exact hG.out) (first | (go_at_call 38; refine (awake12_any _).mono ?_; rintro e w8 ⟨rfl, hb8⟩; have hb8 : Below w1.heap.size w1 w8 := below_trans2 hb7 hb8; have hG := Lib.hid (HG.out _ hb8)) | (go_at_call 15; refine (bytesEq_same _ _ R _ (by exact hx5) (by exact hx6) HRB.out).mono ?_; rintro e w7' ⟨rfl, rfl⟩) | (go_at_call 37; refine (HRR.out _ _ hs1 (by exact hb6)).mono ?_; rintro e w7 ⟨x6, rfl, hx6, hb7⟩; have hx5 := hx5.below hb7 (Nat.le_refl _); have hb7 : Below w1.heap.size w1 w7 := below_trans2 hb6 hb7; have hG := Lib.hid (HG.out _ hb7)) | (go_at_call 36; refine (HLR.out _ _ hs1 (by first | exact hb5 | exact hb5.drew)).mono ?_; rintro e w6 ⟨x5, rfl, hx5, hb6⟩; have hb6 : Below w1.heap.size w1 w6 := below_trans2 hb5 hb6; have hG := Lib.hid (HG.out _ hb6)) | (go_at_call 24; refine (sameTexts_same _ _ LS _ (by exact hx3) (by exact hx4.sls) HSB.out).mono ?_; rintro e w5' ⟨rfl, rfl⟩) | (go_at_call 35; refine (HRS.out _ _ hs1 (by exact hb4)).mono ?_; rintro e w5 ⟨x4, rfl, hx4, hb5⟩; have hx3 := hx3.below hb5 (Nat.le_refl _); have hb5 : Below w1.heap.size w1 w5 := below_trans2 hb4 hb5; have hG := Lib.hid (HG.out _ hb5)) | (go_at_call 34; refine (HLS.out _ _ hs1 (by first | exact hb3 | exact hb3.drew)).mono ?_; rintro e w4 ⟨x3, rfl, hx3, hb4⟩; have hb4 : Below w1.heap.size w1 w4 := below_trans2 hb3 hb4; have hG := Lib.hid (HG.out _ hb4)) | (go_at_call 15; refine (bytesEq_same _ _ F _ (by exact hx1) (by exact hx2) HFB.out).mono ?_; rintro e w3' ⟨rfl, rfl⟩) | (go_at_call 33; refine (HRF.out _ (by exact hb2)).mono ?_; rintro e w3 ⟨x2, rfl, hx2, hb3⟩; have hx1 := hx1.below hb3 (Nat.le_refl _); have hb3 : Below w1.heap.size w1 w3 := below_trans2 hb2 hb3; have hG := Lib.hid (HG.out _ hb3)) | (go_at_call 32; refine (HLF.out _ (by first | exact Below.refl _ _ | exact (Below.refl _ _).drew)).mono ?_; rintro e w2 ⟨x1, rfl, hx1, hb2⟩; have hb2 : Below w1.heap.size w1 w2 := ⟨hb2.os, hb2.tape, hb2.output, hb2.size, hb2.block⟩; have hG := Lib.hid (HG.out _ hb2)))
  go_wp2
  go_ret
  exact ⟨rfl, hb1.trans (hb8.mono hb1.size)⟩

end Go.Proofs.YtkabinicmdcbpaaDoor
