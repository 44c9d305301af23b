
/- The walk of wots.Digits: a digest's digits and those of their check. -/
import Derived.Test.YtjhannlioddkkaaGreatDoorBytes
namespace Go.Proofs.YtjhannlioddkkaaGreatDoor
open Go.RowKit
set_option linter.unusedVariables false

def dig4 (x : Int) : List Int := [x / 64 % 4, x / 16 % 4, x / 4 % 4, x % 4]
def digs (bs : List Int) : List Int := bs.flatMap dig4
def inv3 (l : List Int) : Int := (l.map fun d => 3 - d).sum
def checkDigs (c : Int) : List Int := [c / 256 % 4, c / 64 % 4, c / 16 % 4, c / 4 % 4, c % 4]
def digitsOf (bs : List Int) : List Int := digs (bs.take 32) ++ checkDigs (inv3 (digs (bs.take 32)))

theorem digs_len (bs : List Int) : (digs bs).length = 4 * bs.length := by
  induction bs with
  | nil => rfl
  | cons x xs ih => simp only [digs, List.flatMap_cons, List.length_append, List.length_cons] at *; simp only [ih, dig4, List.length_cons, List.length_nil]; omega

theorem digs_append (a b : List Int) : digs (a ++ b) = digs a ++ digs b := by simp [digs]

theorem inv3_append (a b : List Int) : inv3 (a ++ b) = inv3 a + inv3 b := by simp [inv3]

theorem digs_mem {bs : List Int} {d : Int} (h : d ∈ digs bs) : 0 ≤ d ∧ d ≤ 3 := by
  simp only [digs, List.mem_flatMap, dig4] at h
  obtain ⟨x, _, hx⟩ := h
  simp at hx
  omega

theorem inv3_bd : ∀ (l : List Int), (∀ d ∈ l, 0 ≤ d ∧ d ≤ 3) → 0 ≤ inv3 l ∧ inv3 l ≤ 3 * l.length
  | [], _ => by simp [inv3]
  | x :: xs, h => by
    have h1 := inv3_bd xs (fun d hd => h d (by simp [hd]))
    have h2 := h x (by simp)
    simp only [inv3, List.map_cons, List.sum_cons, List.length_cons] at *
    omega

theorem take_snoc_getD (xs : List Int) (k : Nat) (h : k < xs.length) : xs.take (k + 1) = xs.take k ++ [xs.getD k 0] := by
  rw [List.take_succ_eq_append_getElem h, List.getD_eq_getElem?_getD, List.getElem?_eq_getElem h]; rfl

theorem Tryz.info3' : (Tryz.prog.info? 3).map (fun i => (i.zero, i.size, i.bytes)) = some (some (.int .i64 0), 1, 8) := by kernel_rfl

set_option maxHeartbeats 4000000 in
theorem digits_short (bs : List Int) (v : Value) (hB : IsB bs) (hl : bs.length ≤ 32) (w : World) (hs : Sl w v (bs.map (Value.int .u8))) :
    Calls Tryz.prog 48 #[v] w fun e w' => ∃ v', e = .returned v' ∧ Sl w' v' ((digitsOf bs).map (Value.int .i64)) ∧ Below w.heap.size w w' := by
  obtain ⟨i0, hi, hz0, hz1, hz2⟩ := info_parts Tryz.info3'
  obtain ⟨ad, cap, rfl, hcl, hcm⟩ : ∃ ad cap, v = .slice ad bs.length cap ∧ bs.length ≤ cap ∧ cap ≤ 9223372036854775807 := by
    obtain ⟨x, y, h1, h2, h3, _⟩ := hs
    simp only [List.length_map] at *
    exact ⟨x, y, h1, h2, h3⟩
  go_enter Tryz.func48, Tryz.ntmps48
  go_wp2_with (at_make; refine wpList_make_own _ rfl _ _ 70 rfl w.heap.size 3 i0 (.int .i64 0) 1 Tryz.underlying70 hi hz0 hz1 .i64 .i64 _ (4 * bs.length + 5) rfl rfl (by omega) (by rw [hz2]; omega) (by unfold maxLen; omega) (Nat.le_refl _) ?_)
  intro w1 hown1 hg1
  have hb1 : Below w.heap.size w w1 := (Below.refl _ _).grown hg1 (Nat.le_refl _) (fun k hk => by cases hk)
  clear hg1
  go_wp2
  go_loopw [3, 4, 22] (fun v c i wr => ∃ n : Nat, n ≤ bs.length ∧ i = .int .i64 n ∧ c = .int .i64 (inv3 (digs (bs.take n))) ∧ wr.ownsRow w.heap.size 3 1 v (digs (bs.take n)).length ((digs (bs.take n)).map (Value.int .i64)) ∧ Below w.heap.size w wr) (fun _ _ i _ => bs.length - (intOf i).toNat)
  case atStart => exact ⟨0, Nat.zero_le _, rfl, rfl, hown1, hb1⟩
  case round =>
    clear hown1 hb1
    obtain ⟨n, hn, rfl, rfl, hown, hbr⟩ := hrel
    have hsz := hbr.size
    by_cases hlt : n < bs.length
    · obtain ⟨b, off, rfl, hbb, hx⟩ := hs.ints hlt
      have hx1 : wr.cell? ⟨b, off + n, none⟩ = some (.int .u8 (bs.getD n 0)) := by rw [hbr.cell (p := ⟨b, off + n, none⟩) hbb]; exact hx n hlt
      have hxb := hB.getD n
      have HT := Lib.hid (take_snoc_getD bs n hlt)
      have hib := inv3_bd (digs (bs.take n)) (fun d hd => digs_mem hd)
      have hdl := digs_len (bs.take n)
      have htl : (bs.take n).length = n := by simp; omega
      rw [htl] at hdl
      rw [hdl] at hib hown
      generalize hX : bs.getD n 0 = X at hx1 hxb HT
      clear hX hx
      generalize hC0 : inv3 (digs (bs.take n)) = C0 at hib
      have HC0 := Lib.hid hC0
      generalize hD : digs (bs.take n) = D at hown hC0
      have HD := Lib.hid hD
      have hC1 : Hid (inv3 D = C0) := hC0
      clear hC0 hdl htl hD HC0
      go_wp2
      obtain ⟨wo, rfl⟩ : ∃ wo : World, wo = wr := ⟨_, rfl⟩
      go_loopw [3, 4, 7] (fun v c i wr => ∃ j : Nat, j ≤ 4 ∧ i = .int .i64 (3 - (j : Int)) ∧ c = .int .i64 (C0 + inv3 ((dig4 X).take j)) ∧ wr.ownsRow w.heap.size 3 1 v (4 * n + j) ((D ++ (dig4 X).take j).map (Value.int .i64)) ∧ Below w.heap.size w wr) (fun _ _ i _ => (intOf i + 1).toNat)
      case atStart => exact ⟨0, by omega, rfl, by simp [inv3], by simpa using hown, hbr⟩
      case round =>
        clear hown hbr hx1 hsz
        obtain ⟨j, hj, rfl, rfl, hown, hbr⟩ := hrel
        have hsz := hbr.size
        have HM := Lib.hid (show 4 * n + j + 1 ≤ maxLen by unfold maxLen; omega)
        obtain rfl | rfl | rfl | rfl | rfl : j = 0 ∨ j = 1 ∨ j = 2 ∨ j = 3 ∨ j = 4 := by omega
        · have ha : bits .and .i64 (X / 64) 3 = X / 64 % 4 := and3_i64 _ (by omega) (by omega)
          have hc0 : C0 + inv3 ((dig4 X).take 0) ≤ 9223372036854770000 ∧ 0 ≤ C0 + inv3 ((dig4 X).take 0) := by simp [inv3, dig4]; omega
          generalize hCC : C0 + inv3 ((dig4 X).take 0) = CC at hc0 ⊢
          have HCC := Lib.hid hCC
          clear hCC
          go_wp2_with (at_builtin; refine wpList_append_own _ rfl _ _ 70 rfl w.heap.size 3 i0 (.int .i64 0) 1 8 Tryz.underlying70 hi hz0 hz1 hz2 rfl (by decide) _ _ _ rfl (hown.alloc _) ⟨wr.heap.size, 0, none⟩ 1 1 [.int .i64 (X / 64 % 4)] rfl rfl (cell_one_new _ _ _) (by simp [Value.oneCell']) HM.out (by omega) (by simp; omega) ?_)
          intro v' w2 hown2 hg2 _
          have hb2 := below_append hbr hown (Nat.le_refl _) hsz hg2
          clear hg2
          go_wp2
          go_roundw
          case rel => exact ⟨1, by omega, by simp, by have h := HCC.out; simp [inv3, dig4] at h ⊢; omega, by simpa [dig4] using hown2, hb2⟩
          case measure => simp [intOf]
        · have ha : bits .and .i64 (X / 16) 3 = X / 16 % 4 := and3_i64 _ (by omega) (by omega)
          have hc0 : C0 + inv3 ((dig4 X).take 1) ≤ 9223372036854770000 ∧ 0 ≤ C0 + inv3 ((dig4 X).take 1) := by simp [inv3, dig4]; omega
          generalize hCC : C0 + inv3 ((dig4 X).take 1) = CC at hc0 ⊢
          have HCC := Lib.hid hCC
          clear hCC
          go_wp2_with (at_builtin; refine wpList_append_own _ rfl _ _ 70 rfl w.heap.size 3 i0 (.int .i64 0) 1 8 Tryz.underlying70 hi hz0 hz1 hz2 rfl (by decide) _ _ _ rfl (hown.alloc _) ⟨wr.heap.size, 0, none⟩ 1 1 [.int .i64 (X / 16 % 4)] rfl rfl (cell_one_new _ _ _) (by simp [Value.oneCell']) HM.out (by omega) (by simp; omega) ?_)
          intro v' w2 hown2 hg2 _
          have hb2 := below_append hbr hown (Nat.le_refl _) hsz hg2
          clear hg2
          go_wp2
          go_roundw
          case rel => exact ⟨2, by omega, by simp, by have h := HCC.out; simp [inv3, dig4] at h ⊢; omega, by simpa [dig4] using hown2, hb2⟩
          case measure => simp [intOf]
        · have ha : bits .and .i64 (X / 4) 3 = X / 4 % 4 := and3_i64 _ (by omega) (by omega)
          have hc0 : C0 + inv3 ((dig4 X).take 2) ≤ 9223372036854770000 ∧ 0 ≤ C0 + inv3 ((dig4 X).take 2) := by simp [inv3, dig4]; omega
          generalize hCC : C0 + inv3 ((dig4 X).take 2) = CC at hc0 ⊢
          have HCC := Lib.hid hCC
          clear hCC
          go_wp2_with (at_builtin; refine wpList_append_own _ rfl _ _ 70 rfl w.heap.size 3 i0 (.int .i64 0) 1 8 Tryz.underlying70 hi hz0 hz1 hz2 rfl (by decide) _ _ _ rfl (hown.alloc _) ⟨wr.heap.size, 0, none⟩ 1 1 [.int .i64 (X / 4 % 4)] rfl rfl (cell_one_new _ _ _) (by simp [Value.oneCell']) HM.out (by omega) (by simp; omega) ?_)
          intro v' w2 hown2 hg2 _
          have hb2 := below_append hbr hown (Nat.le_refl _) hsz hg2
          clear hg2
          go_wp2
          go_roundw
          case rel => exact ⟨3, by omega, by simp, by have h := HCC.out; simp [inv3, dig4] at h ⊢; omega, by simpa [dig4] using hown2, hb2⟩
          case measure => simp [intOf]
        · have ha : bits .and .i64 (X) 3 = X % 4 := and3_i64 _ (by omega) (by omega)
          have hc0 : C0 + inv3 ((dig4 X).take 3) ≤ 9223372036854770000 ∧ 0 ≤ C0 + inv3 ((dig4 X).take 3) := by simp [inv3, dig4]; omega
          generalize hCC : C0 + inv3 ((dig4 X).take 3) = CC at hc0 ⊢
          have HCC := Lib.hid hCC
          clear hCC
          go_wp2_with (at_builtin; refine wpList_append_own _ rfl _ _ 70 rfl w.heap.size 3 i0 (.int .i64 0) 1 8 Tryz.underlying70 hi hz0 hz1 hz2 rfl (by decide) _ _ _ rfl (hown.alloc _) ⟨wr.heap.size, 0, none⟩ 1 1 [.int .i64 (X % 4)] rfl rfl (cell_one_new _ _ _) (by simp [Value.oneCell']) HM.out (by omega) (by simp; omega) ?_)
          intro v' w2 hown2 hg2 _
          have hb2 := below_append hbr hown (Nat.le_refl _) hsz hg2
          clear hg2
          go_wp2
          go_roundw
          case rel => exact ⟨4, by omega, by simp, by have h := HCC.out; simp [inv3, dig4] at h ⊢; omega, by simpa [dig4] using hown2, hb2⟩
          case measure => simp [intOf]
        · go_wp2
          go_roundw
          case rel =>
            refine ⟨n + 1, by omega, by go_num, ?_, ?_, hbr⟩
            · rw [HT.out, digs_append, inv3_append, HD.out, hC1.out]
              simp [digs, dig4]
            · rw [HT.out, digs_append, HD.out]
              have e : (D ++ digs [X]).length = 4 * n + 4 := by rw [← HD.out, ← digs_append, digs_len]; simp; omega
              rw [e]
              simpa [digs, dig4] using hown
          case measure => simp [intOf]; omega
    · obtain rfl : n = bs.length := by omega
      rw [List.take_length] at hown ⊢
      have hib := inv3_bd (digs bs) (fun d hd => digs_mem hd)
      have hdl := digs_len bs
      rw [hdl] at hib hown
      generalize hC0 : inv3 (digs bs) = C at hib ⊢
      have HC := Lib.hid hC0
      generalize hD : digs bs = D at hown
      have HD := Lib.hid hD
      clear hC0 hD hdl
      go_wp2
      obtain ⟨wo, rfl⟩ : ∃ wo : World, wo = wr := ⟨_, rfl⟩
      go_loopw [3, 9] (fun v i wr => ∃ j : Nat, j ≤ 5 ∧ i = .int .i64 (4 - (j : Int)) ∧ wr.ownsRow w.heap.size 3 1 v (4 * bs.length + j) ((D ++ (checkDigs C).take j).map (Value.int .i64)) ∧ Below w.heap.size w wr) (fun _ i _ => (intOf i + 1).toNat)
      case atStart => exact ⟨0, by omega, rfl, by simpa using hown, hbr⟩
      case round =>
        clear hown hbr hsz
        obtain ⟨j, hj, rfl, hown, hbr⟩ := hrel
        have hsz := hbr.size
        have HM := Lib.hid (show 4 * bs.length + j + 1 ≤ maxLen by unfold maxLen; omega)
        obtain rfl | rfl | rfl | rfl | rfl | rfl : j = 0 ∨ j = 1 ∨ j = 2 ∨ j = 3 ∨ j = 4 ∨ j = 5 := by omega
        · have ha : bits .and .i64 (C / 256) 3 = C / 256 % 4 := and3_i64 _ (by omega) (by omega)
          go_wp2_with (at_builtin; refine wpList_append_own _ rfl _ _ 70 rfl w.heap.size 3 i0 (.int .i64 0) 1 8 Tryz.underlying70 hi hz0 hz1 hz2 rfl (by decide) _ _ _ rfl (hown.alloc _) ⟨wr.heap.size, 0, none⟩ 1 1 [.int .i64 (C / 256 % 4)] rfl rfl (cell_one_new _ _ _) (by simp [Value.oneCell']) HM.out (by omega) (by simp; omega) ?_)
          intro v' w2 hown2 hg2 _
          have hb2 := below_append hbr hown (Nat.le_refl _) hsz hg2
          clear hg2
          go_wp2
          go_roundw
          case rel => exact ⟨1, by omega, by simp, by simpa [checkDigs] using hown2, hb2⟩
          case measure => simp [intOf]
        · have ha : bits .and .i64 (C / 64) 3 = C / 64 % 4 := and3_i64 _ (by omega) (by omega)
          go_wp2_with (at_builtin; refine wpList_append_own _ rfl _ _ 70 rfl w.heap.size 3 i0 (.int .i64 0) 1 8 Tryz.underlying70 hi hz0 hz1 hz2 rfl (by decide) _ _ _ rfl (hown.alloc _) ⟨wr.heap.size, 0, none⟩ 1 1 [.int .i64 (C / 64 % 4)] rfl rfl (cell_one_new _ _ _) (by simp [Value.oneCell']) HM.out (by omega) (by simp; omega) ?_)
          intro v' w2 hown2 hg2 _
          have hb2 := below_append hbr hown (Nat.le_refl _) hsz hg2
          clear hg2
          go_wp2
          go_roundw
          case rel => exact ⟨2, by omega, by simp, by simpa [checkDigs] using hown2, hb2⟩
          case measure => simp [intOf]
        · have ha : bits .and .i64 (C / 16) 3 = C / 16 % 4 := and3_i64 _ (by omega) (by omega)
          go_wp2_with (at_builtin; refine wpList_append_own _ rfl _ _ 70 rfl w.heap.size 3 i0 (.int .i64 0) 1 8 Tryz.underlying70 hi hz0 hz1 hz2 rfl (by decide) _ _ _ rfl (hown.alloc _) ⟨wr.heap.size, 0, none⟩ 1 1 [.int .i64 (C / 16 % 4)] rfl rfl (cell_one_new _ _ _) (by simp [Value.oneCell']) HM.out (by omega) (by simp; omega) ?_)
          intro v' w2 hown2 hg2 _
          have hb2 := below_append hbr hown (Nat.le_refl _) hsz hg2
          clear hg2
          go_wp2
          go_roundw
          case rel => exact ⟨3, by omega, by simp, by simpa [checkDigs] using hown2, hb2⟩
          case measure => simp [intOf]
        · have ha : bits .and .i64 (C / 4) 3 = C / 4 % 4 := and3_i64 _ (by omega) (by omega)
          go_wp2_with (at_builtin; refine wpList_append_own _ rfl _ _ 70 rfl w.heap.size 3 i0 (.int .i64 0) 1 8 Tryz.underlying70 hi hz0 hz1 hz2 rfl (by decide) _ _ _ rfl (hown.alloc _) ⟨wr.heap.size, 0, none⟩ 1 1 [.int .i64 (C / 4 % 4)] rfl rfl (cell_one_new _ _ _) (by simp [Value.oneCell']) HM.out (by omega) (by simp; omega) ?_)
          intro v' w2 hown2 hg2 _
          have hb2 := below_append hbr hown (Nat.le_refl _) hsz hg2
          clear hg2
          go_wp2
          go_roundw
          case rel => exact ⟨4, by omega, by simp, by simpa [checkDigs] using hown2, hb2⟩
          case measure => simp [intOf]
        · have ha : bits .and .i64 (C) 3 = C % 4 := and3_i64 _ (by omega) (by omega)
          go_wp2_with (at_builtin; refine wpList_append_own _ rfl _ _ 70 rfl w.heap.size 3 i0 (.int .i64 0) 1 8 Tryz.underlying70 hi hz0 hz1 hz2 rfl (by decide) _ _ _ rfl (hown.alloc _) ⟨wr.heap.size, 0, none⟩ 1 1 [.int .i64 (C % 4)] rfl rfl (cell_one_new _ _ _) (by simp [Value.oneCell']) HM.out (by omega) (by simp; omega) ?_)
          intro v' w2 hown2 hg2 _
          have hb2 := below_append hbr hown (Nat.le_refl _) hsz hg2
          clear hg2
          go_wp2
          go_roundw
          case rel => exact ⟨5, by omega, by simp, by simpa [checkDigs] using hown2, hb2⟩
          case measure => simp [intOf]
        · go_wp2
          go_ret
          refine ⟨_, rfl, ?_, hbr⟩
          have e : digitsOf bs = D ++ (checkDigs C).take 5 := by
            unfold digitsOf
            rw [List.take_of_length_le hl, HC.out, HD.out]
            rfl
          rw [e]
          exact Sl.of_owns hown

end Go.Proofs.YtjhannlioddkkaaGreatDoor
