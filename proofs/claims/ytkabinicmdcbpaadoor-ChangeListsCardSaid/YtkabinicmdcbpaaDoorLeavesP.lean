/- The walks of the program's Leaves, of both Lists. -/
import Derived.Test.YtkabinicmdcbpaaDoorLeaves
import Derived.Test.YtkabinicmdcbpaaDoorMake
namespace Go.Proofs.YtkabinicmdcbpaaDoor
open Go.RowKit
set_option linter.unusedVariables false

theorem run_make_texts (n : Nat) (hn : n ≤ 1000000) (w : World) :
    (Instr.makeSlice 28 (.int .i64 n) (.int .i64 n)).run Tryd.prog w = .ok (.slice (some ⟨w.heap.size, 0, none⟩) n n) (w.alloc (.cells (List.replicate n (Value.slice none 0 0)).toArray 22)) := by
  have h := run_make_row' (P := Tryd.prog) 28 22 (.slice none 0 0) 24 Tryd.underlying28 (by kernel_rfl) rfl .i64 .i64 n (by omega) (by omega) w
  rw [h]
  have e : madeCells #[.slice none 0 0] n = (List.replicate n (Value.slice none 0 0)).toArray := by
    apply Array.ext'
    rw [toList_madeCells_one]
  rw [e]

theorem set_next (us : List Value) (k n : Nat) (z v : Value) (hu : us.length = k) (hk : k < n) : ((us ++ List.replicate (n - k) z).toArray.setIfInBounds k v) = ((us ++ [v]) ++ List.replicate (n - (k + 1)) z).toArray := by
  rw [List.setIfInBounds_toArray]
  congr 1
  rw [show n - k = (n - (k + 1)) + 1 by omega, List.replicate_succ, List.set_append_right _ _ (by omega), hu, Nat.sub_self, List.set_cons_zero, List.append_assoc]; rfl
theorem get_next (us : List Value) (k n : Nat) (z : Value) (hu : us.length = k) (hk : k < n) : (us ++ List.replicate (n - k) z).toArray[k]? = some z := by
  rw [List.getElem?_toArray, List.getElem?_append_right (by omega), hu, Nat.sub_self, List.getElem?_replicate, if_pos (by omega)]
theorem SlAll.notB {w : World} : ∀ {us : List Value} {ps : List (List Int)}, SlAll w us ps → ∀ c ∈ us, notB c
  | [], [], _, c, hc => by simp at hc
  | [], _ :: _, h, _, _ => h.elim
  | _ :: _, [], h, _, _ => h.elim
  | u :: us, p :: ps, h, c, hc => by
    rcases List.mem_cons.1 hc with rfl | hc
    · obtain ⟨a, n, cc, rfl⟩ := h.1.val; exact notB_slice _ _ _
    · exact SlAll.notB h.2 c hc
set_option maxRecDepth 100000 in
set_option maxHeartbeats 1000000 in
theorem leaves_any (size : Int) (v : Value) (l : List Chg) (w : World) (hl : l.length ≤ 1000000) (hB : ∀ p ∈ l, IsB p.1 ∧ IsB p.2) (hs : Bds w v l) (ht : Tabs w) :
    Calls Tryd.prog 34 #[.int .i64 size, v] w fun e w' => ∃ x, e = .returned x ∧ Sls w' x (leavesI size l) ∧ Below w.heap.size w w' := by
  obtain ⟨a, cap, rfl, hc, hm⟩ := hs.shape
  have HB := Lib.hid hB
  clear hB
  have hmk := fun w1 => run_make_texts l.length hl w1
  have hb1 : Below w.heap.size w (w.alloc (.cells (List.replicate l.length (Value.slice none 0 0)).toArray 22)) := (Below.refl _ _).alloc (Nat.le_refl _) _
  have k1 := Blk.new w 22 (List.replicate l.length (Value.slice none 0 0)).toArray
  go_enter Tryd.func34, Tryd.ntmps34
  go_wp2
  go_loopw [12] (fun i wr => ∃ (k : Nat) (us : List Value), k ≤ l.length ∧ i = .int .i64 k ∧ us.length = k ∧ SlAll wr us (leavesI size (l.take k)) ∧ Blk wr w.heap.size 22 (us ++ List.replicate (l.length - k) (Value.slice none 0 0)).toArray ∧ Below w.heap.size w wr) (fun i _ => l.length - (intOf i).toNat)
  case atStart => exact ⟨0, [], by omega, rfl, rfl, trivial, by simpa using k1, hb1⟩
  case round =>
    obtain ⟨k, us, hk, rfl, hul, hS, hK, hbr⟩ := hrel
    by_cases hlt : k < l.length
    · have hkI : (k : Int) < (l.length : Int) := by omega
      obtain ⟨b, off, rfl, hbl, u1, u2, c1, c2, s1, s2⟩ := hs.at hlt
      have c1 : wr.cell? ⟨b, off + k * 2, none⟩ = some u1 := (hbr.cell (p := ⟨b, off + k * 2, none⟩) hbl).trans c1
      have c2 : wr.cell? ⟨b, off + k * 2 + 1, none⟩ = some u2 := (hbr.cell (p := ⟨b, off + k * 2 + 1, none⟩) hbl).trans c2
      have s1 := s1.below hbr (Nat.le_refl _)
      have s2 := s2.below hbr (Nat.le_refl _)
      have HST := Lib.hid (leaves_step size l k hlt)
      have HBP : Hid (IsB (l.getD k ([], [])).1 ∧ IsB (l.getD k ([], [])).2) := by
        rw [List.getD_eq_getElem?_getD, List.getElem?_eq_getElem hlt]; exact HB.out _ (List.getElem_mem hlt)
      generalize l.getD k ([], []) = P at *
      obtain ⟨xa, xn, xc, rfl⟩ := s1.val
      obtain ⟨ya, yn, yc, rfl⟩ := s2.val
      have HLF := Lib.hid (leaf_any size (.agg #[.slice xa xn xc, .slice ya yn yc]) P _ HBP.out ⟨_, _, rfl, s1, s2⟩ (ht.below hbr))
      clear s1 s2 k1 hb1
      go_wp2_with fail
      refine HLF.out.mono ?_
      rintro e w2 ⟨x, rfl, hx, hb2⟩
      obtain ⟨ra, rn, rc, rfl⟩ := hx.val
      have hS := hS.below hb2
      have hK := hK.belowS hb2
      have hbr := hbr.trans (hb2.mono hbr.size)
      have q1 : w2.cell? ⟨w.heap.size, k, none⟩ = some (.slice none 0 0) := (hK.cell k).trans (get_next us k l.length _ hul hlt)
      have q2 : w2.frozen? ⟨w.heap.size, k, none⟩ = false := hK.frozen k
      have HNB : Hid (∀ c ∈ ((us ++ List.replicate (l.length - k) (Value.slice none 0 0)).toArray).toList, notB c) := fun c hc => by
        rcases List.mem_append.1 (show c ∈ us ++ List.replicate (l.length - k) (Value.slice none 0 0) from hc) with h | h
        · exact hS.notB c h
        · rw [List.eq_of_mem_replicate h]; exact notB_slice _ _ _
      have hgS : w2.grownBy (w2.setCell ⟨w.heap.size, k, none⟩ (.slice ra rn rc)) (some w.heap.size) := only_setCell (World.grownBy.refl _ _) (.inl rfl) _
      have hS2 := (hS.keepB hK HNB.out hgS).snoc (hx.keepB hK HNB.out hgS)
      have hK2 := hK.set_ k (.slice ra rn rc)
      rw [set_next us k l.length _ _ hul hlt] at hK2
      have hbr2 := hbr.setCell (p := ⟨w.heap.size, k, none⟩) (Nat.le_refl _) (.slice ra rn rc)
      rw [← HST.out] at hS2
      have HUL := Lib.hid (show (us ++ [Value.slice ra rn rc]).length = k + 1 by simp [hul])
      clear hb2 hS hK hgS hx hul hbr
      go_wp2
      exact ⟨⟨k + 1, us ++ [.slice ra rn rc], by omega, by go_num, HUL.out, hS2, hK2, hbr2⟩, by simp [intOf]; omega⟩
    · obtain rfl : k = l.length := by omega
      have hkI : ¬ (l.length : Int) < (l.length : Int) := by omega
      rw [List.take_length] at hS
      rw [Nat.sub_self, List.replicate_zero, List.append_nil] at hK
      have HR : Hid (Sls wr (.slice (some ⟨w.heap.size, 0, none⟩) l.length l.length) (leavesI size l)) := ⟨us, Sl.ofBlk hK l.length hul.symm (by unfold maxLen; omega), hS.len, fun i u bs hu hp => hS.at i u bs hu hp⟩
      clear hS hK k1 hb1
      go_wp2
      go_ret
      exact ⟨_, rfl, HR.out, hbr⟩

end Go.Proofs.YtkabinicmdcbpaaDoor
