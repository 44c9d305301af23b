/- The walk of wots.Digits: a digest's digits and those of their check. The walk of slices.Equal at []int: whether two lists of numbers are the same. The plain law of the digits, for the law WotsChecks. The walk of the reference's Digits. The walks of Sign, the program's and the reference's. The walks of end, Key, the program's; Key of the reference. -/
import Derived.Test.YtililoojjfcfgaaDoorBytes
import Derived.Test.YtililoojjfcfgaaDoorRows
import Derived.Test.YtililoojjfcfgaaDoorLib
import Derived.Test.YtililoojjfcfgaaDoorFcA
import Derived.Deep.RegionHeld3
import Derived.StillTailTactics
namespace Go.Proofs.YtililoojjfcfgaaDoor
open Go.RowKit
set_option linter.unusedVariables false

def dig4 (x : Int) : List Int := [x / 64 % 4, x / 16 % 4, x / 4 % 4, x % 4]
def digs (bs : List Int) : List Int := bs.flatMap dig4
def inv3 (l : List Int) : Int := (l.map fun d => 3 - d).sum
def checkDigs (c : Int) : List Int := [c / 256 % 4, c / 64 % 4, c / 16 % 4, c / 4 % 4, c % 4]
def digitsOf (bs : List Int) : List Int := digs (bs.take 32) ++ checkDigs (inv3 (digs (bs.take 32)))

theorem digs_len (bs : List Int) : (digs bs).length = 4 * bs.length := by
  induction bs with
  | nil => rfl
  | cons x xs ih => simp only [digs, List.flatMap_cons, List.length_append, List.length_cons] at *; simp only [ih, dig4, List.length_cons, List.length_nil]; omega

theorem digs_append (a b : List Int) : digs (a ++ b) = digs a ++ digs b := by simp [digs]

theorem inv3_append (a b : List Int) : inv3 (a ++ b) = inv3 a + inv3 b := by simp [inv3]

theorem digs_mem {bs : List Int} {d : Int} (h : d ∈ digs bs) : 0 ≤ d ∧ d ≤ 3 := by
  simp only [digs, List.mem_flatMap, dig4] at h
  obtain ⟨x, _, hx⟩ := h
  simp at hx
  omega

theorem inv3_bd : ∀ (l : List Int), (∀ d ∈ l, 0 ≤ d ∧ d ≤ 3) → 0 ≤ inv3 l ∧ inv3 l ≤ 3 * l.length
  | [], _ => by simp [inv3]
  | x :: xs, h => by
    have h1 := inv3_bd xs (fun d hd => h d (by simp [hd]))
    have h2 := h x (by simp)
    simp only [inv3, List.map_cons, List.sum_cons, List.length_cons] at *
    omega

theorem take_snoc_getD (xs : List Int) (k : Nat) (h : k < xs.length) : xs.take (k + 1) = xs.take k ++ [xs.getD k 0] := by
  rw [List.take_succ_eq_append_getElem h, List.getD_eq_getElem?_getD, List.getElem?_eq_getElem h]; rfl

theorem Tryd.info3' : (Tryd.prog.info? 3).map (fun i => (i.zero, i.size, i.bytes)) = some (some (.int .i64 0), 1, 8) := by kernel_rfl

set_option maxHeartbeats 4000000 in
theorem digits_short (bs : List Int) (v : Value) (hB : IsB bs) (hl : bs.length ≤ 32) (w : World) (hs : Sl w v (bs.map (Value.int .u8))) :
    Calls Tryd.prog 97 #[v] w fun e w' => ∃ v', e = .returned v' ∧ Sl w' v' ((digitsOf bs).map (Value.int .i64)) ∧ Below w.heap.size w w' := by
  obtain ⟨i0, hi, hz0, hz1, hz2⟩ := info_parts Tryd.info3'
  obtain ⟨ad, cap, rfl, hcl, hcm⟩ : ∃ ad cap, v = .slice ad bs.length cap ∧ bs.length ≤ cap ∧ cap ≤ 9223372036854775807 := by
    obtain ⟨x, y, h1, h2, h3, _⟩ := hs
    simp only [List.length_map] at *
    exact ⟨x, y, h1, h2, h3⟩
  go_enter Tryd.func97, Tryd.ntmps97
  go_wp2_with (at_make; refine wpList_make_own _ rfl _ _ 35 rfl w.heap.size 3 i0 (.int .i64 0) 1 Tryd.underlying35 hi hz0 hz1 .i64 .i64 _ (4 * bs.length + 5) rfl rfl (by omega) (by rw [hz2]; omega) (by unfold maxLen; omega) (Nat.le_refl _) ?_)
  intro w1 hown1 hg1
  have hb1 : Below w.heap.size w w1 := (Below.refl _ _).grown hg1 (Nat.le_refl _) (fun k hk => by cases hk)
  clear hg1
  go_wp2
  go_loopw [3, 4, 22] (fun v c i wr => ∃ n : Nat, n ≤ bs.length ∧ i = .int .i64 n ∧ c = .int .i64 (inv3 (digs (bs.take n))) ∧ wr.ownsRow w.heap.size 3 1 v (digs (bs.take n)).length ((digs (bs.take n)).map (Value.int .i64)) ∧ Below w.heap.size w wr) (fun _ _ i _ => bs.length - (intOf i).toNat)
  case atStart => exact ⟨0, Nat.zero_le _, rfl, rfl, hown1, hb1⟩
  case round =>
    clear hown1 hb1
    obtain ⟨n, hn, rfl, rfl, hown, hbr⟩ := hrel
    have hsz := hbr.size
    by_cases hlt : n < bs.length
    · obtain ⟨b, off, rfl, hbb, hx⟩ := hs.ints hlt
      have hx1 : wr.cell? ⟨b, off + n, none⟩ = some (.int .u8 (bs.getD n 0)) := by rw [hbr.cell (p := ⟨b, off + n, none⟩) hbb]; exact hx n hlt
      have hxb := hB.getD n
      have HT := Lib.hid (take_snoc_getD bs n hlt)
      have hib := inv3_bd (digs (bs.take n)) (fun d hd => digs_mem hd)
      have hdl := digs_len (bs.take n)
      have htl : (bs.take n).length = n := by simp; omega
      rw [htl] at hdl
      rw [hdl] at hib hown
      generalize hX : bs.getD n 0 = X at hx1 hxb HT
      clear hX hx
      generalize hC0 : inv3 (digs (bs.take n)) = C0 at hib
      have HC0 := Lib.hid hC0
      generalize hD : digs (bs.take n) = D at hown hC0
      have HD := Lib.hid hD
      have hC1 : Hid (inv3 D = C0) := hC0
      clear hC0 hdl htl hD HC0
      go_wp2
      obtain ⟨wo, rfl⟩ : ∃ wo : World, wo = wr := ⟨_, rfl⟩
      go_loopw [3, 4, 7] (fun v c i wr => ∃ j : Nat, j ≤ 4 ∧ i = .int .i64 (3 - (j : Int)) ∧ c = .int .i64 (C0 + inv3 ((dig4 X).take j)) ∧ wr.ownsRow w.heap.size 3 1 v (4 * n + j) ((D ++ (dig4 X).take j).map (Value.int .i64)) ∧ Below w.heap.size w wr) (fun _ _ i _ => (intOf i + 1).toNat)
      case atStart => exact ⟨0, by omega, rfl, by simp [inv3], by simpa using hown, hbr⟩
      case round =>
        clear hown hbr hx1 hsz
        obtain ⟨j, hj, rfl, rfl, hown, hbr⟩ := hrel
        have hsz := hbr.size
        have HM := Lib.hid (show 4 * n + j + 1 ≤ maxLen by unfold maxLen; omega)
        obtain rfl | rfl | rfl | rfl | rfl : j = 0 ∨ j = 1 ∨ j = 2 ∨ j = 3 ∨ j = 4 := by omega
        · have ha : bits .and .i64 (X / 64) 3 = X / 64 % 4 := and3_i64 _ (by omega) (by omega)
          have hc0 : C0 + inv3 ((dig4 X).take 0) ≤ 9223372036854770000 ∧ 0 ≤ C0 + inv3 ((dig4 X).take 0) := by simp [inv3, dig4]; omega
          generalize hCC : C0 + inv3 ((dig4 X).take 0) = CC at hc0 ⊢
          have HCC := Lib.hid hCC
          clear hCC
          go_wp2_with (at_builtin; refine wpList_append_own _ rfl _ _ 35 rfl w.heap.size 3 i0 (.int .i64 0) 1 8 Tryd.underlying35 hi hz0 hz1 hz2 rfl (by decide) _ _ _ rfl (hown.alloc _) ⟨wr.heap.size, 0, none⟩ 1 1 [.int .i64 (X / 64 % 4)] rfl rfl (cell_one_new _ _ _) (by simp [Value.oneCell']) HM.out (by omega) (by simp; omega) ?_)
          intro v' w2 hown2 hg2 _
          have hb2 := below_append hbr hown (Nat.le_refl _) hsz hg2
          clear hg2
          go_wp2
          go_roundw
          case rel => exact ⟨1, by omega, by simp, by have h := HCC.out; simp [inv3, dig4] at h ⊢; omega, by simpa [dig4] using hown2, hb2⟩
          case measure => simp [intOf]
        · have ha : bits .and .i64 (X / 16) 3 = X / 16 % 4 := and3_i64 _ (by omega) (by omega)
          have hc0 : C0 + inv3 ((dig4 X).take 1) ≤ 9223372036854770000 ∧ 0 ≤ C0 + inv3 ((dig4 X).take 1) := by simp [inv3, dig4]; omega
          generalize hCC : C0 + inv3 ((dig4 X).take 1) = CC at hc0 ⊢
          have HCC := Lib.hid hCC
          clear hCC
          go_wp2_with (at_builtin; refine wpList_append_own _ rfl _ _ 35 rfl w.heap.size 3 i0 (.int .i64 0) 1 8 Tryd.underlying35 hi hz0 hz1 hz2 rfl (by decide) _ _ _ rfl (hown.alloc _) ⟨wr.heap.size, 0, none⟩ 1 1 [.int .i64 (X / 16 % 4)] rfl rfl (cell_one_new _ _ _) (by simp [Value.oneCell']) HM.out (by omega) (by simp; omega) ?_)
          intro v' w2 hown2 hg2 _
          have hb2 := below_append hbr hown (Nat.le_refl _) hsz hg2
          clear hg2
          go_wp2
          go_roundw
          case rel => exact ⟨2, by omega, by simp, by have h := HCC.out; simp [inv3, dig4] at h ⊢; omega, by simpa [dig4] using hown2, hb2⟩
          case measure => simp [intOf]
        · have ha : bits .and .i64 (X / 4) 3 = X / 4 % 4 := and3_i64 _ (by omega) (by omega)
          have hc0 : C0 + inv3 ((dig4 X).take 2) ≤ 9223372036854770000 ∧ 0 ≤ C0 + inv3 ((dig4 X).take 2) := by simp [inv3, dig4]; omega
          generalize hCC : C0 + inv3 ((dig4 X).take 2) = CC at hc0 ⊢
          have HCC := Lib.hid hCC
          clear hCC
          go_wp2_with (at_builtin; refine wpList_append_own _ rfl _ _ 35 rfl w.heap.size 3 i0 (.int .i64 0) 1 8 Tryd.underlying35 hi hz0 hz1 hz2 rfl (by decide) _ _ _ rfl (hown.alloc _) ⟨wr.heap.size, 0, none⟩ 1 1 [.int .i64 (X / 4 % 4)] rfl rfl (cell_one_new _ _ _) (by simp [Value.oneCell']) HM.out (by omega) (by simp; omega) ?_)
          intro v' w2 hown2 hg2 _
          have hb2 := below_append hbr hown (Nat.le_refl _) hsz hg2
          clear hg2
          go_wp2
          go_roundw
          case rel => exact ⟨3, by omega, by simp, by have h := HCC.out; simp [inv3, dig4] at h ⊢; omega, by simpa [dig4] using hown2, hb2⟩
          case measure => simp [intOf]
        · have ha : bits .and .i64 (X) 3 = X % 4 := and3_i64 _ (by omega) (by omega)
          have hc0 : C0 + inv3 ((dig4 X).take 3) ≤ 9223372036854770000 ∧ 0 ≤ C0 + inv3 ((dig4 X).take 3) := by simp [inv3, dig4]; omega
          generalize hCC : C0 + inv3 ((dig4 X).take 3) = CC at hc0 ⊢
          have HCC := Lib.hid hCC
          clear hCC
          go_wp2_with (at_builtin; refine wpList_append_own _ rfl _ _ 35 rfl w.heap.size 3 i0 (.int .i64 0) 1 8 Tryd.underlying35 hi hz0 hz1 hz2 rfl (by decide) _ _ _ rfl (hown.alloc _) ⟨wr.heap.size, 0, none⟩ 1 1 [.int .i64 (X % 4)] rfl rfl (cell_one_new _ _ _) (by simp [Value.oneCell']) HM.out (by omega) (by simp; omega) ?_)
          intro v' w2 hown2 hg2 _
          have hb2 := below_append hbr hown (Nat.le_refl _) hsz hg2
          clear hg2
          go_wp2
          go_roundw
          case rel => exact ⟨4, by omega, by simp, by have h := HCC.out; simp [inv3, dig4] at h ⊢; omega, by simpa [dig4] using hown2, hb2⟩
          case measure => simp [intOf]
        · go_wp2
          go_roundw
          case rel =>
            refine ⟨n + 1, by omega, by go_num, ?_, ?_, hbr⟩
            · rw [HT.out, digs_append, inv3_append, HD.out, hC1.out]
              simp [digs, dig4]
            · rw [HT.out, digs_append, HD.out]
              have e : (D ++ digs [X]).length = 4 * n + 4 := by rw [← HD.out, ← digs_append, digs_len]; simp; omega
              rw [e]
              simpa [digs, dig4] using hown
          case measure => simp [intOf]; omega
    · obtain rfl : n = bs.length := by omega
      rw [List.take_length] at hown ⊢
      have hib := inv3_bd (digs bs) (fun d hd => digs_mem hd)
      have hdl := digs_len bs
      rw [hdl] at hib hown
      generalize hC0 : inv3 (digs bs) = C at hib ⊢
      have HC := Lib.hid hC0
      generalize hD : digs bs = D at hown
      have HD := Lib.hid hD
      clear hC0 hD hdl
      go_wp2
      obtain ⟨wo, rfl⟩ : ∃ wo : World, wo = wr := ⟨_, rfl⟩
      go_loopw [3, 9] (fun v i wr => ∃ j : Nat, j ≤ 5 ∧ i = .int .i64 (4 - (j : Int)) ∧ wr.ownsRow w.heap.size 3 1 v (4 * bs.length + j) ((D ++ (checkDigs C).take j).map (Value.int .i64)) ∧ Below w.heap.size w wr) (fun _ i _ => (intOf i + 1).toNat)
      case atStart => exact ⟨0, by omega, rfl, by simpa using hown, hbr⟩
      case round =>
        clear hown hbr hsz
        obtain ⟨j, hj, rfl, hown, hbr⟩ := hrel
        have hsz := hbr.size
        have HM := Lib.hid (show 4 * bs.length + j + 1 ≤ maxLen by unfold maxLen; omega)
        obtain rfl | rfl | rfl | rfl | rfl | rfl : j = 0 ∨ j = 1 ∨ j = 2 ∨ j = 3 ∨ j = 4 ∨ j = 5 := by omega
        · have ha : bits .and .i64 (C / 256) 3 = C / 256 % 4 := and3_i64 _ (by omega) (by omega)
          go_wp2_with (at_builtin; refine wpList_append_own _ rfl _ _ 35 rfl w.heap.size 3 i0 (.int .i64 0) 1 8 Tryd.underlying35 hi hz0 hz1 hz2 rfl (by decide) _ _ _ rfl (hown.alloc _) ⟨wr.heap.size, 0, none⟩ 1 1 [.int .i64 (C / 256 % 4)] rfl rfl (cell_one_new _ _ _) (by simp [Value.oneCell']) HM.out (by omega) (by simp; omega) ?_)
          intro v' w2 hown2 hg2 _
          have hb2 := below_append hbr hown (Nat.le_refl _) hsz hg2
          clear hg2
          go_wp2
          go_roundw
          case rel => exact ⟨1, by omega, by simp, by simpa [checkDigs] using hown2, hb2⟩
          case measure => simp [intOf]
        · have ha : bits .and .i64 (C / 64) 3 = C / 64 % 4 := and3_i64 _ (by omega) (by omega)
          go_wp2_with (at_builtin; refine wpList_append_own _ rfl _ _ 35 rfl w.heap.size 3 i0 (.int .i64 0) 1 8 Tryd.underlying35 hi hz0 hz1 hz2 rfl (by decide) _ _ _ rfl (hown.alloc _) ⟨wr.heap.size, 0, none⟩ 1 1 [.int .i64 (C / 64 % 4)] rfl rfl (cell_one_new _ _ _) (by simp [Value.oneCell']) HM.out (by omega) (by simp; omega) ?_)
          intro v' w2 hown2 hg2 _
          have hb2 := below_append hbr hown (Nat.le_refl _) hsz hg2
          clear hg2
          go_wp2
          go_roundw
          case rel => exact ⟨2, by omega, by simp, by simpa [checkDigs] using hown2, hb2⟩
          case measure => simp [intOf]
        · have ha : bits .and .i64 (C / 16) 3 = C / 16 % 4 := and3_i64 _ (by omega) (by omega)
          go_wp2_with (at_builtin; refine wpList_append_own _ rfl _ _ 35 rfl w.heap.size 3 i0 (.int .i64 0) 1 8 Tryd.underlying35 hi hz0 hz1 hz2 rfl (by decide) _ _ _ rfl (hown.alloc _) ⟨wr.heap.size, 0, none⟩ 1 1 [.int .i64 (C / 16 % 4)] rfl rfl (cell_one_new _ _ _) (by simp [Value.oneCell']) HM.out (by omega) (by simp; omega) ?_)
          intro v' w2 hown2 hg2 _
          have hb2 := below_append hbr hown (Nat.le_refl _) hsz hg2
          clear hg2
          go_wp2
          go_roundw
          case rel => exact ⟨3, by omega, by simp, by simpa [checkDigs] using hown2, hb2⟩
          case measure => simp [intOf]
        · have ha : bits .and .i64 (C / 4) 3 = C / 4 % 4 := and3_i64 _ (by omega) (by omega)
          go_wp2_with (at_builtin; refine wpList_append_own _ rfl _ _ 35 rfl w.heap.size 3 i0 (.int .i64 0) 1 8 Tryd.underlying35 hi hz0 hz1 hz2 rfl (by decide) _ _ _ rfl (hown.alloc _) ⟨wr.heap.size, 0, none⟩ 1 1 [.int .i64 (C / 4 % 4)] rfl rfl (cell_one_new _ _ _) (by simp [Value.oneCell']) HM.out (by omega) (by simp; omega) ?_)
          intro v' w2 hown2 hg2 _
          have hb2 := below_append hbr hown (Nat.le_refl _) hsz hg2
          clear hg2
          go_wp2
          go_roundw
          case rel => exact ⟨4, by omega, by simp, by simpa [checkDigs] using hown2, hb2⟩
          case measure => simp [intOf]
        · have ha : bits .and .i64 (C) 3 = C % 4 := and3_i64 _ (by omega) (by omega)
          go_wp2_with (at_builtin; refine wpList_append_own _ rfl _ _ 35 rfl w.heap.size 3 i0 (.int .i64 0) 1 8 Tryd.underlying35 hi hz0 hz1 hz2 rfl (by decide) _ _ _ rfl (hown.alloc _) ⟨wr.heap.size, 0, none⟩ 1 1 [.int .i64 (C % 4)] rfl rfl (cell_one_new _ _ _) (by simp [Value.oneCell']) HM.out (by omega) (by simp; omega) ?_)
          intro v' w2 hown2 hg2 _
          have hb2 := below_append hbr hown (Nat.le_refl _) hsz hg2
          clear hg2
          go_wp2
          go_roundw
          case rel => exact ⟨5, by omega, by simp, by simpa [checkDigs] using hown2, hb2⟩
          case measure => simp [intOf]
        · go_wp2
          go_ret
          refine ⟨_, rfl, ?_, hbr⟩
          have e : digitsOf bs = D ++ (checkDigs C).take 5 := by
            unfold digitsOf
            rw [List.take_of_length_le hl, HC.out, HD.out]
            rfl
          rw [e]
          exact Sl.of_owns hown

end Go.Proofs.YtililoojjfcfgaaDoor

namespace Go.Proofs.YtililoojjfcfgaaDoor
open Go.RowKit

theorem differ_at {xs ys : List Int} {k : Nat} (h : xs.getD k 0 ≠ ys.getD k 0) : decide (xs = ys) = false := by
  simp only [decide_eq_false_iff_not]
  rintro rfl
  exact h rfl

theorem same_all {xs ys : List Int} (hl : xs.length = ys.length) (h : ∀ j, j < xs.length → xs.getD j 0 = ys.getD j 0) : decide (xs = ys) = true := by
  simp only [decide_eq_true_eq]
  refine List.ext_getElem hl fun j h1 h2 => ?_
  have := h j h1
  rwa [List.getD_eq_getElem?_getD, List.getD_eq_getElem?_getD, List.getElem?_eq_getElem h1, List.getElem?_eq_getElem h2] at this


end Go.Proofs.YtililoojjfcfgaaDoor

namespace Go.Proofs.YtililoojjfcfgaaDoor
open Go.RowKit
set_option linter.unusedVariables false

/-- Some number of the first k of x is less than that of y. -/
def ltUpto (x y : List Int) (k : Nat) : Bool := (List.range k).any fun j => decide (x.getD j 0 < y.getD j 0)

theorem ltUpto_succ (x y : List Int) (k : Nat) : ltUpto x y (k + 1) = (ltUpto x y k || decide (x.getD k 0 < y.getD k 0)) := by
  simp [ltUpto, List.range_succ]

theorem ltUpto_false {x y : List Int} {k : Nat} (h : ltUpto x y k = false) (j : Nat) (hj : j < k) : y.getD j 0 ≤ x.getD j 0 := by
  simp [ltUpto] at h
  have := h j hj
  simpa [List.getD_eq_getElem?_getD] using this

theorem ltUpto_self (x : List Int) (k : Nat) : ltUpto x x k = false := by simp [ltUpto]

theorem inv3_le : ∀ {a b : List Int}, a.length = b.length → (∀ j, j < a.length → a.getD j 0 ≤ b.getD j 0) → inv3 b ≤ inv3 a ∧ (inv3 a ≤ inv3 b → a = b)
  | [], [], _, _ => ⟨by simp [inv3], fun _ => rfl⟩
  | [], _ :: _, h, _ => by simp at h
  | _ :: _, [], h, _ => by simp at h
  | x :: xs, y :: ys, h, hle => by
    have h0 := hle 0 (by simp)
    have ih := inv3_le (a := xs) (b := ys) (by simpa using h) (fun j hj => by have := hle (j + 1) (by simp; omega); simpa using this)
    simp only [inv3, List.map_cons, List.sum_cons, List.getD_cons_zero] at *
    refine ⟨by omega, fun he => ?_⟩
    rw [ih.2 (by omega), show x = y by omega]

theorem quarter_le {x y : Int} (hq : x / 4 ≤ y / 4) (h : x % 4 ≤ y % 4) : x ≤ y := by omega
theorem quarter_64 (x : Int) : x / 64 / 4 = x / 256 := by omega
theorem quarter_16 (x : Int) : x / 16 / 4 = x / 64 := by omega
theorem quarter_4 (x : Int) : x / 4 / 4 = x / 16 := by omega
theorem quarter_top {x y : Int} (hx : 0 ≤ x ∧ x ≤ 1023) (hy : 0 ≤ y ∧ y ≤ 1023) (h : x / 256 % 4 ≤ y / 256 % 4) : x / 256 ≤ y / 256 := by
  have h1 : x / 256 % 4 = x / 256 := by omega
  have h2 : y / 256 % 4 = y / 256 := by omega
  rw [h1, h2] at h; exact h

theorem check_le (c d : Int) (hc : 0 ≤ c ∧ c ≤ 1023) (hd : 0 ≤ d ∧ d ≤ 1023) (h : ∀ j, j < 5 → (checkDigs c).getD j 0 ≤ (checkDigs d).getD j 0) : c ≤ d := by
  have h0 : c / 256 % 4 ≤ d / 256 % 4 := h 0 (by omega)
  have h1 : c / 64 % 4 ≤ d / 64 % 4 := h 1 (by omega)
  have h2 : c / 16 % 4 ≤ d / 16 % 4 := h 2 (by omega)
  have h3 : c / 4 % 4 ≤ d / 4 % 4 := h 3 (by omega)
  have h4 : c % 4 ≤ d % 4 := h 4 (by omega)
  have e0 := quarter_top hc hd h0
  have e1 := quarter_le (x := c / 64) (y := d / 64) (by rw [quarter_64, quarter_64]; exact e0) h1
  have e2 := quarter_le (x := c / 16) (y := d / 16) (by rw [quarter_16, quarter_16]; exact e1) h2
  have e3 := quarter_le (x := c / 4) (y := d / 4) (by rw [quarter_4, quarter_4]; exact e2) h3
  exact quarter_le e3 h4

theorem four_eq {x y : Int} (hx : 0 ≤ x ∧ x ≤ 255) (hy : 0 ≤ y ∧ y ≤ 255) (h1 : x / 64 % 4 = y / 64 % 4) (h2 : x / 16 % 4 = y / 16 % 4) (h3 : x / 4 % 4 = y / 4 % 4) (h4 : x % 4 = y % 4) : x = y := by
  have e1 : x / 64 = y / 64 := by
    have a1 : x / 64 % 4 = x / 64 := by omega
    have a2 : y / 64 % 4 = y / 64 := by omega
    rw [a1, a2] at h1; exact h1
  have e2 : x / 16 = y / 16 := by have := quarter_16 x; have := quarter_16 y; omega
  have e3 : x / 4 = y / 4 := by have := quarter_4 x; have := quarter_4 y; omega
  omega

theorem digs_inj : ∀ {a b : List Int}, IsB a → IsB b → digs a = digs b → a = b
  | [], [], _, _, _ => rfl
  | [], y :: ys, _, _, h => by simp [digs, dig4] at h
  | x :: xs, [], _, _, h => by simp [digs, dig4] at h
  | x :: xs, y :: ys, ha, hb, h => by
    have h1 : dig4 x ++ digs xs = dig4 y ++ digs ys := by simpa [digs] using h
    simp only [dig4, List.cons_append, List.nil_append, List.cons.injEq] at h1
    have hx := ha x (by simp)
    have hy := hb y (by simp)
    rw [digs_inj (fun z hz => ha z (by simp [hz])) (fun z hz => hb z (by simp [hz])) h1.2.2.2.2, four_eq hx hy h1.1 h1.2.1 h1.2.2.1 h1.2.2.2.1]

theorem digits_le {a b : List Int} (ha : IsB a) (hb : IsB b) (hl : a.length = b.length) (h32 : a.length ≤ 32) (h : ∀ j, j < 4 * a.length + 5 → (digitsOf a).getD j 0 ≤ (digitsOf b).getD j 0) : a = b := by
  unfold digitsOf at h
  rw [List.take_of_length_le h32, List.take_of_length_le (by omega)] at h
  have la := digs_len a
  have lb := digs_len b
  have h1 := inv3_le (a := digs a) (b := digs b) (by omega) (fun j hj => by
    have := h j (by omega)
    rwa [List.getD_eq_getElem?_getD, List.getD_eq_getElem?_getD, List.getElem?_append_left (by omega), List.getElem?_append_left (by omega), ← List.getD_eq_getElem?_getD, ← List.getD_eq_getElem?_getD] at this)
  have ba := inv3_bd (digs a) (fun d hd => digs_mem hd)
  have bb := inv3_bd (digs b) (fun d hd => digs_mem hd)
  have h2 := check_le (inv3 (digs a)) (inv3 (digs b)) (by omega) (by omega) (fun j hj => by
    have := h (4 * a.length + j) (by omega)
    rwa [List.getD_eq_getElem?_getD, List.getD_eq_getElem?_getD, List.getElem?_append_right (by omega), List.getElem?_append_right (by omega), la, lb, hl, Nat.add_sub_cancel_left, ← List.getD_eq_getElem?_getD, ← List.getD_eq_getElem?_getD] at this)
  exact digs_inj ha hb (h1.2 h2)

theorem digits_len (a : List Int) (h32 : a.length ≤ 32) : (digitsOf a).length = 4 * a.length + 5 := by
  unfold digitsOf
  rw [List.take_of_length_le h32, List.length_append, digs_len]
  rfl

theorem digits_lt {a b : List Int} (ha : IsB a) (hb : IsB b) (hl : a.length = b.length) (h32 : a.length ≤ 32) : ltUpto (digitsOf a) (digitsOf b) (4 * a.length + 5) = !decide (a = b) := by
  by_cases he : a = b
  · subst he; simp [ltUpto_self]
  · cases hlt : ltUpto (digitsOf a) (digitsOf b) (4 * a.length + 5) with
    | true => simp [he]
    | false => exact absurd (digits_le hb ha hl.symm (by omega) (fun j hj => ltUpto_false hlt j (by omega))).symm he

theorem digits_mem {a : List Int} (h32 : a.length ≤ 32) (j : Nat) : 0 ≤ (digitsOf a).getD j 0 ∧ (digitsOf a).getD j 0 ≤ 3 := by
  have key : ∀ d ∈ digitsOf a, 0 ≤ d ∧ d ≤ 3 := by
    intro d hd
    unfold digitsOf at hd
    rcases List.mem_append.1 hd with h | h
    · exact digs_mem h
    · simp [checkDigs] at h; omega
  rw [List.getD_eq_getElem?_getD]
  rcases Nat.lt_or_ge j (digitsOf a).length with hi | hi
  · rw [List.getElem?_eq_getElem hi]; exact key _ (List.getElem_mem hi)
  · rw [List.getElem?_eq_none hi]; simp

end Go.Proofs.YtililoojjfcfgaaDoor

namespace Go.Proofs.YtililoojjfcfgaaDoor
open Go.RowKit
set_option linter.unusedVariables false

set_option maxHeartbeats 4000000 in
theorem refDigits_short (bs : List Int) (v : Value) (hB : IsB bs) (hl : bs.length ≤ 32) (w : World) (hs : Sl w v (bs.map (Value.int .u8))) :
    Calls Tryd.prog 131 #[v] w fun e w' => ∃ v', e = .returned v' ∧ Sl w' v' ((digitsOf bs).map (Value.int .i64)) ∧ Below w.heap.size w w' := by
  obtain ⟨i0, hi, hz0, hz1, hz2⟩ := info_parts Tryd.info3'
  obtain ⟨ad, cap, rfl, hcl, hcm⟩ : ∃ ad cap, v = .slice ad bs.length cap ∧ bs.length ≤ cap ∧ cap ≤ 9223372036854775807 := by
    obtain ⟨x, y, h1, h2, h3, _⟩ := hs
    simp only [List.length_map] at *
    exact ⟨x, y, h1, h2, h3⟩
  go_enter Tryd.func131, Tryd.ntmps131
  have hown1 := World.ownsRow_nil w w.heap.size 3 1
  have hb1 := Below.refl w.heap.size w
  go_wp2
  go_loopw [3, 4, 12] (fun v c i wr => ∃ n : Nat, n ≤ bs.length ∧ i = .int .i64 n ∧ c = .int .i64 (inv3 (digs (bs.take n))) ∧ wr.ownsRow w.heap.size 3 1 v (digs (bs.take n)).length ((digs (bs.take n)).map (Value.int .i64)) ∧ Below w.heap.size w wr) (fun _ _ i _ => bs.length - (intOf i).toNat)
  case atStart => exact ⟨0, Nat.zero_le _, rfl, rfl, hown1, hb1⟩
  case round =>
    clear hown1 hb1
    obtain ⟨n, hn, rfl, rfl, hown, hbr⟩ := hrel
    have hsz := hbr.size
    by_cases hlt : n < bs.length
    · have hn32 : (n : Int) < 32 := by omega
      obtain ⟨b, off, rfl, hbb, hx⟩ := hs.ints hlt
      have hx1 : wr.cell? ⟨b, off + n, none⟩ = some (.int .u8 (bs.getD n 0)) := by rw [hbr.cell (p := ⟨b, off + n, none⟩) hbb]; exact hx n hlt
      have hxb := hB.getD n
      have HT := Lib.hid (take_snoc_getD bs n hlt)
      have hib := inv3_bd (digs (bs.take n)) (fun d hd => digs_mem hd)
      have hdl := digs_len (bs.take n)
      have htl : (bs.take n).length = n := by simp; omega
      rw [htl] at hdl
      rw [hdl] at hib hown
      generalize hX : bs.getD n 0 = X at hx1 hxb HT
      clear hX hx
      generalize hC0 : inv3 (digs (bs.take n)) = C0 at hib
      have HC0 := Lib.hid hC0
      generalize hD : digs (bs.take n) = D at hown hC0
      have HD := Lib.hid hD
      have hC1 : Hid (inv3 D = C0) := hC0
      clear hC0 hdl htl hD HC0
      go_wp2
      obtain ⟨wo, rfl⟩ : ∃ wo : World, wo = wr := ⟨_, rfl⟩
      go_loopw [3, 4, 7] (fun v c i wr => ∃ j : Nat, j ≤ 4 ∧ i = .int .i64 (6 - 2 * (j : Int)) ∧ c = .int .i64 (C0 + inv3 ((dig4 X).take j)) ∧ wr.ownsRow w.heap.size 3 1 v (4 * n + j) ((D ++ (dig4 X).take j).map (Value.int .i64)) ∧ Below w.heap.size w wr) (fun _ _ i _ => (intOf i + 2).toNat)
      case atStart => exact ⟨0, by omega, rfl, by simp [inv3], by simpa using hown, hbr⟩
      case round =>
        clear hown hbr hx1 hsz
        obtain ⟨j, hj, rfl, rfl, hown, hbr⟩ := hrel
        have hsz := hbr.size
        have HM := Lib.hid (show 4 * n + j + 1 ≤ maxLen by unfold maxLen; omega)
        obtain rfl | rfl | rfl | rfl | rfl : j = 0 ∨ j = 1 ∨ j = 2 ∨ j = 3 ∨ j = 4 := by omega
        · have ha : bits .and .i64 (X / 64) 3 = X / 64 % 4 := and3_i64 _ (by omega) (by omega)
          have hc0 : C0 + inv3 ((dig4 X).take 0) ≤ 9223372036854770000 ∧ 0 ≤ C0 + inv3 ((dig4 X).take 0) := by simp [inv3, dig4]; omega
          generalize hCC : C0 + inv3 ((dig4 X).take 0) = CC at hc0 ⊢
          have HCC := Lib.hid hCC
          clear hCC
          go_wp2_with (at_builtin; refine wpList_append_own _ rfl _ _ 35 rfl w.heap.size 3 i0 (.int .i64 0) 1 8 Tryd.underlying35 hi hz0 hz1 hz2 rfl (by decide) _ _ _ rfl (hown.alloc _) ⟨wr.heap.size, 0, none⟩ 1 1 [.int .i64 (X / 64 % 4)] rfl rfl (cell_one_new _ _ _) (by simp [Value.oneCell']) HM.out (by omega) (by simp; omega) ?_)
          intro v' w2 hown2 hg2 _
          have hb2 := below_append hbr hown (Nat.le_refl _) hsz hg2
          clear hg2
          go_wp2
          go_roundw
          case rel => exact ⟨1, by omega, by simp, by have h := HCC.out; simp [inv3, dig4] at h ⊢; omega, by simpa [dig4] using hown2, hb2⟩
          case measure => simp [intOf]
        · have ha : bits .and .i64 (X / 16) 3 = X / 16 % 4 := and3_i64 _ (by omega) (by omega)
          have hc0 : C0 + inv3 ((dig4 X).take 1) ≤ 9223372036854770000 ∧ 0 ≤ C0 + inv3 ((dig4 X).take 1) := by simp [inv3, dig4]; omega
          generalize hCC : C0 + inv3 ((dig4 X).take 1) = CC at hc0 ⊢
          have HCC := Lib.hid hCC
          clear hCC
          go_wp2_with (at_builtin; refine wpList_append_own _ rfl _ _ 35 rfl w.heap.size 3 i0 (.int .i64 0) 1 8 Tryd.underlying35 hi hz0 hz1 hz2 rfl (by decide) _ _ _ rfl (hown.alloc _) ⟨wr.heap.size, 0, none⟩ 1 1 [.int .i64 (X / 16 % 4)] rfl rfl (cell_one_new _ _ _) (by simp [Value.oneCell']) HM.out (by omega) (by simp; omega) ?_)
          intro v' w2 hown2 hg2 _
          have hb2 := below_append hbr hown (Nat.le_refl _) hsz hg2
          clear hg2
          go_wp2
          go_roundw
          case rel => exact ⟨2, by omega, by simp, by have h := HCC.out; simp [inv3, dig4] at h ⊢; omega, by simpa [dig4] using hown2, hb2⟩
          case measure => simp [intOf]
        · have ha : bits .and .i64 (X / 4) 3 = X / 4 % 4 := and3_i64 _ (by omega) (by omega)
          have hc0 : C0 + inv3 ((dig4 X).take 2) ≤ 9223372036854770000 ∧ 0 ≤ C0 + inv3 ((dig4 X).take 2) := by simp [inv3, dig4]; omega
          generalize hCC : C0 + inv3 ((dig4 X).take 2) = CC at hc0 ⊢
          have HCC := Lib.hid hCC
          clear hCC
          go_wp2_with (at_builtin; refine wpList_append_own _ rfl _ _ 35 rfl w.heap.size 3 i0 (.int .i64 0) 1 8 Tryd.underlying35 hi hz0 hz1 hz2 rfl (by decide) _ _ _ rfl (hown.alloc _) ⟨wr.heap.size, 0, none⟩ 1 1 [.int .i64 (X / 4 % 4)] rfl rfl (cell_one_new _ _ _) (by simp [Value.oneCell']) HM.out (by omega) (by simp; omega) ?_)
          intro v' w2 hown2 hg2 _
          have hb2 := below_append hbr hown (Nat.le_refl _) hsz hg2
          clear hg2
          go_wp2
          go_roundw
          case rel => exact ⟨3, by omega, by simp, by have h := HCC.out; simp [inv3, dig4] at h ⊢; omega, by simpa [dig4] using hown2, hb2⟩
          case measure => simp [intOf]
        · have ha : bits .and .i64 (X) 3 = X % 4 := and3_i64 _ (by omega) (by omega)
          have hc0 : C0 + inv3 ((dig4 X).take 3) ≤ 9223372036854770000 ∧ 0 ≤ C0 + inv3 ((dig4 X).take 3) := by simp [inv3, dig4]; omega
          generalize hCC : C0 + inv3 ((dig4 X).take 3) = CC at hc0 ⊢
          have HCC := Lib.hid hCC
          clear hCC
          go_wp2_with (at_builtin; refine wpList_append_own _ rfl _ _ 35 rfl w.heap.size 3 i0 (.int .i64 0) 1 8 Tryd.underlying35 hi hz0 hz1 hz2 rfl (by decide) _ _ _ rfl (hown.alloc _) ⟨wr.heap.size, 0, none⟩ 1 1 [.int .i64 (X % 4)] rfl rfl (cell_one_new _ _ _) (by simp [Value.oneCell']) HM.out (by omega) (by simp; omega) ?_)
          intro v' w2 hown2 hg2 _
          have hb2 := below_append hbr hown (Nat.le_refl _) hsz hg2
          clear hg2
          go_wp2
          go_roundw
          case rel => exact ⟨4, by omega, by simp, by have h := HCC.out; simp [inv3, dig4] at h ⊢; omega, by simpa [dig4] using hown2, hb2⟩
          case measure => simp [intOf]
        · go_wp2
          go_roundw
          case rel =>
            refine ⟨n + 1, by omega, by go_num, ?_, ?_, hbr⟩
            · rw [HT.out, digs_append, inv3_append, HD.out, hC1.out]
              simp [digs, dig4]
            · rw [HT.out, digs_append, HD.out]
              have e : (D ++ digs [X]).length = 4 * n + 4 := by rw [← HD.out, ← digs_append, digs_len]; simp; omega
              rw [e]
              simpa [digs, dig4] using hown
          case measure => simp [intOf]; omega
    · obtain rfl : n = bs.length := by omega
      rw [List.take_length] at hown ⊢
      have hib := inv3_bd (digs bs) (fun d hd => digs_mem hd)
      have hdl := digs_len bs
      rw [hdl] at hib hown
      generalize hC0 : inv3 (digs bs) = C at hib ⊢
      have HC := Lib.hid hC0
      generalize hD : digs bs = D at hown
      have HD := Lib.hid hD
      clear hC0 hD hdl
      go_wp2
      obtain ⟨wo, rfl⟩ : ∃ wo : World, wo = wr := ⟨_, rfl⟩
      go_loopw [3, 9] (fun v i wr => ∃ j : Nat, j ≤ 5 ∧ i = .int .i64 (8 - 2 * (j : Int)) ∧ wr.ownsRow w.heap.size 3 1 v (4 * bs.length + j) ((D ++ (checkDigs C).take j).map (Value.int .i64)) ∧ Below w.heap.size w wr) (fun _ i _ => (intOf i + 2).toNat)
      case atStart => exact ⟨0, by omega, rfl, by simpa using hown, hbr⟩
      case round =>
        clear hown hbr hsz
        obtain ⟨j, hj, rfl, hown, hbr⟩ := hrel
        have hsz := hbr.size
        have HM := Lib.hid (show 4 * bs.length + j + 1 ≤ maxLen by unfold maxLen; omega)
        obtain rfl | rfl | rfl | rfl | rfl | rfl : j = 0 ∨ j = 1 ∨ j = 2 ∨ j = 3 ∨ j = 4 ∨ j = 5 := by omega
        · have ha : bits .and .i64 (C / 256) 3 = C / 256 % 4 := and3_i64 _ (by omega) (by omega)
          go_wp2_with (at_builtin; refine wpList_append_own _ rfl _ _ 35 rfl w.heap.size 3 i0 (.int .i64 0) 1 8 Tryd.underlying35 hi hz0 hz1 hz2 rfl (by decide) _ _ _ rfl (hown.alloc _) ⟨wr.heap.size, 0, none⟩ 1 1 [.int .i64 (C / 256 % 4)] rfl rfl (cell_one_new _ _ _) (by simp [Value.oneCell']) HM.out (by omega) (by simp; omega) ?_)
          intro v' w2 hown2 hg2 _
          have hb2 := below_append hbr hown (Nat.le_refl _) hsz hg2
          clear hg2
          go_wp2
          go_roundw
          case rel => exact ⟨1, by omega, by simp, by simpa [checkDigs] using hown2, hb2⟩
          case measure => simp [intOf]
        · have ha : bits .and .i64 (C / 64) 3 = C / 64 % 4 := and3_i64 _ (by omega) (by omega)
          go_wp2_with (at_builtin; refine wpList_append_own _ rfl _ _ 35 rfl w.heap.size 3 i0 (.int .i64 0) 1 8 Tryd.underlying35 hi hz0 hz1 hz2 rfl (by decide) _ _ _ rfl (hown.alloc _) ⟨wr.heap.size, 0, none⟩ 1 1 [.int .i64 (C / 64 % 4)] rfl rfl (cell_one_new _ _ _) (by simp [Value.oneCell']) HM.out (by omega) (by simp; omega) ?_)
          intro v' w2 hown2 hg2 _
          have hb2 := below_append hbr hown (Nat.le_refl _) hsz hg2
          clear hg2
          go_wp2
          go_roundw
          case rel => exact ⟨2, by omega, by simp, by simpa [checkDigs] using hown2, hb2⟩
          case measure => simp [intOf]
        · have ha : bits .and .i64 (C / 16) 3 = C / 16 % 4 := and3_i64 _ (by omega) (by omega)
          go_wp2_with (at_builtin; refine wpList_append_own _ rfl _ _ 35 rfl w.heap.size 3 i0 (.int .i64 0) 1 8 Tryd.underlying35 hi hz0 hz1 hz2 rfl (by decide) _ _ _ rfl (hown.alloc _) ⟨wr.heap.size, 0, none⟩ 1 1 [.int .i64 (C / 16 % 4)] rfl rfl (cell_one_new _ _ _) (by simp [Value.oneCell']) HM.out (by omega) (by simp; omega) ?_)
          intro v' w2 hown2 hg2 _
          have hb2 := below_append hbr hown (Nat.le_refl _) hsz hg2
          clear hg2
          go_wp2
          go_roundw
          case rel => exact ⟨3, by omega, by simp, by simpa [checkDigs] using hown2, hb2⟩
          case measure => simp [intOf]
        · have ha : bits .and .i64 (C / 4) 3 = C / 4 % 4 := and3_i64 _ (by omega) (by omega)
          go_wp2_with (at_builtin; refine wpList_append_own _ rfl _ _ 35 rfl w.heap.size 3 i0 (.int .i64 0) 1 8 Tryd.underlying35 hi hz0 hz1 hz2 rfl (by decide) _ _ _ rfl (hown.alloc _) ⟨wr.heap.size, 0, none⟩ 1 1 [.int .i64 (C / 4 % 4)] rfl rfl (cell_one_new _ _ _) (by simp [Value.oneCell']) HM.out (by omega) (by simp; omega) ?_)
          intro v' w2 hown2 hg2 _
          have hb2 := below_append hbr hown (Nat.le_refl _) hsz hg2
          clear hg2
          go_wp2
          go_roundw
          case rel => exact ⟨4, by omega, by simp, by simpa [checkDigs] using hown2, hb2⟩
          case measure => simp [intOf]
        · have ha : bits .and .i64 (C) 3 = C % 4 := and3_i64 _ (by omega) (by omega)
          go_wp2_with (at_builtin; refine wpList_append_own _ rfl _ _ 35 rfl w.heap.size 3 i0 (.int .i64 0) 1 8 Tryd.underlying35 hi hz0 hz1 hz2 rfl (by decide) _ _ _ rfl (hown.alloc _) ⟨wr.heap.size, 0, none⟩ 1 1 [.int .i64 (C % 4)] rfl rfl (cell_one_new _ _ _) (by simp [Value.oneCell']) HM.out (by omega) (by simp; omega) ?_)
          intro v' w2 hown2 hg2 _
          have hb2 := below_append hbr hown (Nat.le_refl _) hsz hg2
          clear hg2
          go_wp2
          go_roundw
          case rel => exact ⟨5, by omega, by simp, by simpa [checkDigs] using hown2, hb2⟩
          case measure => simp [intOf]
        · go_wp2
          go_ret
          refine ⟨_, rfl, ?_, hbr⟩
          have e : digitsOf bs = D ++ (checkDigs C).take 5 := by
            unfold digitsOf
            rw [List.take_of_length_le hl, HC.out, HD.out]
            rfl
          rw [e]
          exact Sl.of_owns hown

end Go.Proofs.YtililoojjfcfgaaDoor

namespace Go.Proofs.YtililoojjfcfgaaDoor
open Go.RowKit
set_option linter.unusedVariables false

/-- The first k chains' values of a signature. -/
def sgU (size : Int) (seed : List Int) (idx : Int) (dd : List Int) (k : Nat) : List (List Int) := (List.range k).map fun (i : Nat) => chI size idx i 0 (secI size seed idx i) (dd.getD i 0).toNat
theorem sgU_succ (size : Int) (seed : List Int) (idx : Int) (dd : List Int) (k : Nat) : sgU size seed idx dd (k + 1) = sgU size seed idx dd k ++ [chI size idx k 0 (secI size seed idx k) (dd.getD k 0).toNat] := by
  unfold sgU; rw [List.range_succ, List.map_append]; rfl
theorem sgU_len (size : Int) (seed : List Int) (idx : Int) (dd : List Int) (k : Nat) : (sgU size seed idx dd k).length = k := by simp [sgU]
def signE (size : Int) (n : Nat) (idx : Int) (m : Nat) : Int := if canB size n idx = true ∧ (m : Int) = size then 0 else 1
def signL (size : Int) (seed : List Int) (idx : Int) (dg : List Int) : List (List Int) := if canB size seed.length idx = true ∧ (dg.length : Int) = size then sgU size seed idx (digitsOf dg) (4 * dg.length + 5) else []


theorem chain0_any (size : Int) (v : Value) (bs : List Int) (idx i : Int) (te : Nat) (w : World) (hx0 : -9223372036854775808 ≤ idx) (hx1 : idx ≤ 9223372036854775807) (hi0 : -9223372036854775808 ≤ i) (hi1 : i ≤ 9223372036854775807) (h2 : te ≤ 3) (hn : bs.length ≤ 140737488351232) (hB : IsB bs) (hs : Sl w v (bs.map (Value.int .u8))) (ht : Tabs w) :
    Calls Tryd.prog 122 #[.int .i64 size, v, .int .i64 idx, .int .i64 i, .int .i64 0, .int .i64 te] w fun e w' => ∃ x, e = .returned x ∧ Sl w' x ((chI size idx i 0 bs te).map (Value.int .u8)) ∧ Below w.heap.size w w' := by
  have h := chain_any size v bs idx i 0 te w hx0 hx1 hi0 hi1 (by omega) hn hB hs ht
  rw [show max (0 : Int) 0 = 0 by omega, show (min (te : Int) 3 - 0).toNat = te by omega] at h
  exact h

theorem chain3_any (size : Int) (v : Value) (bs : List Int) (idx i : Int) (fr : Nat) (w : World) (hx0 : -9223372036854775808 ≤ idx) (hx1 : idx ≤ 9223372036854775807) (hi0 : -9223372036854775808 ≤ i) (hi1 : i ≤ 9223372036854775807) (h2 : fr ≤ 3) (hn : bs.length ≤ 140737488351232) (hB : IsB bs) (hs : Sl w v (bs.map (Value.int .u8))) (ht : Tabs w) :
    Calls Tryd.prog 122 #[.int .i64 size, v, .int .i64 idx, .int .i64 i, .int .i64 fr, .int .i64 3] w fun e w' => ∃ x, e = .returned x ∧ Sl w' x ((chI size idx i fr bs (3 - fr)).map (Value.int .u8)) ∧ Below w.heap.size w w' := by
  have h := chain_any size v bs idx i fr 3 w hx0 hx1 hi0 hi1 (by omega) hn hB hs ht
  rw [show max (fr : Int) 0 = fr by omega, show (min (3 : Int) 3 - fr).toNat = 3 - fr by omega] at h
  exact h

theorem chain03_any (size : Int) (v : Value) (bs : List Int) (idx i : Int) (w : World) (hx0 : -9223372036854775808 ≤ idx) (hx1 : idx ≤ 9223372036854775807) (hi0 : -9223372036854775808 ≤ i) (hi1 : i ≤ 9223372036854775807) (hn : bs.length ≤ 140737488351232) (hB : IsB bs) (hs : Sl w v (bs.map (Value.int .u8))) (ht : Tabs w) :
    Calls Tryd.prog 122 #[.int .i64 size, v, .int .i64 idx, .int .i64 i, .int .i64 0, .int .i64 3] w fun e w' => ∃ x, e = .returned x ∧ Sl w' x ((chI size idx i 0 bs 3).map (Value.int .u8)) ∧ Below w.heap.size w w' := by
  have h := chain_any size v bs idx i 0 3 w hx0 hx1 hi0 hi1 (by omega) hn hB hs ht
  rw [show max (0 : Int) 0 = 0 by omega, show (min (3 : Int) 3 - 0).toNat = 3 by omega] at h
  exact h


theorem refChain0_any (size : Int) (v : Value) (bs : List Int) (idx i : Int) (te : Nat) (w : World) (hx0 : -9223372036854775808 ≤ idx) (hx1 : idx ≤ 9223372036854775807) (hi0 : -9223372036854775808 ≤ i) (hi1 : i ≤ 9223372036854775807) (h2 : te ≤ 3) (hn : bs.length ≤ 140737488351232) (hB : IsB bs) (hs : Sl w v (bs.map (Value.int .u8))) :
    Calls Tryd.prog 114 #[.int .i64 size, v, .int .i64 idx, .int .i64 i, .int .i64 0, .int .i64 te] w fun e w' => ∃ x, e = .returned x ∧ Sl w' x ((chI size idx i 0 bs te).map (Value.int .u8)) ∧ Below w.heap.size w w' := by
  have h := refChain_any size v bs idx i 0 te w hx0 hx1 hi0 hi1 (by omega) hn hB hs
  rw [show max (0 : Int) 0 = 0 by omega, show (min (te : Int) 3 - 0).toNat = te by omega] at h
  exact h

theorem refChain3_any (size : Int) (v : Value) (bs : List Int) (idx i : Int) (fr : Nat) (w : World) (hx0 : -9223372036854775808 ≤ idx) (hx1 : idx ≤ 9223372036854775807) (hi0 : -9223372036854775808 ≤ i) (hi1 : i ≤ 9223372036854775807) (h2 : fr ≤ 3) (hn : bs.length ≤ 140737488351232) (hB : IsB bs) (hs : Sl w v (bs.map (Value.int .u8))) :
    Calls Tryd.prog 114 #[.int .i64 size, v, .int .i64 idx, .int .i64 i, .int .i64 fr, .int .i64 3] w fun e w' => ∃ x, e = .returned x ∧ Sl w' x ((chI size idx i fr bs (3 - fr)).map (Value.int .u8)) ∧ Below w.heap.size w w' := by
  have h := refChain_any size v bs idx i fr 3 w hx0 hx1 hi0 hi1 (by omega) hn hB hs
  rw [show max (fr : Int) 0 = fr by omega, show (min (3 : Int) 3 - fr).toNat = 3 - fr by omega] at h
  exact h

theorem refChain03_any (size : Int) (v : Value) (bs : List Int) (idx i : Int) (w : World) (hx0 : -9223372036854775808 ≤ idx) (hx1 : idx ≤ 9223372036854775807) (hi0 : -9223372036854775808 ≤ i) (hi1 : i ≤ 9223372036854775807) (hn : bs.length ≤ 140737488351232) (hB : IsB bs) (hs : Sl w v (bs.map (Value.int .u8))) :
    Calls Tryd.prog 114 #[.int .i64 size, v, .int .i64 idx, .int .i64 i, .int .i64 0, .int .i64 3] w fun e w' => ∃ x, e = .returned x ∧ Sl w' x ((chI size idx i 0 bs 3).map (Value.int .u8)) ∧ Below w.heap.size w w' := by
  have h := refChain_any size v bs idx i 0 3 w hx0 hx1 hi0 hi1 (by omega) hn hB hs
  rw [show max (0 : Int) 0 = 0 by omega, show (min (3 : Int) 3 - 0).toNat = 3 by omega] at h
  exact h

set_option maxRecDepth 100000 in
set_option maxHeartbeats 1000000 in
theorem sign_any (size : Int) (v : Value) (seed : List Int) (idx : Int) (vd : Value) (dg : List Int) (w : World) (hx0 : -9223372036854775808 ≤ idx) (hx1 : idx ≤ 9223372036854775807)
    (hB : IsB seed) (hs : Sl w v (seed.map (Value.int .u8))) (hBd : IsB dg) (hsd : Sl w vd (dg.map (Value.int .u8))) (ht : Tabs w) :
    Calls Tryd.prog 82 #[.int .i64 size, v, .int .i64 idx, vd] w fun e w' => ∃ x, e = .returned (.tuple #[x, .int .i64 (signE size seed.length idx dg.length)]) ∧ Sls w' x (signL size seed idx dg) ∧ Below w.heap.size w w' := by
  have HC := Lib.hid (can_any size v seed idx w hs)
  obtain ⟨va, vn, vc, rfl⟩ := hs.val
  obtain ⟨da, dc, rfl, hdc, _⟩ := hsd.shape
  rw [List.length_map] at *
  have HE := Lib.hid (show signE size seed.length idx dg.length = if canB size seed.length idx = true ∧ (dg.length : Int) = size then 0 else 1 from rfl)
  have HL := Lib.hid (show signL size seed idx dg = if canB size seed.length idx = true ∧ (dg.length : Int) = size then sgU size seed idx (digitsOf dg) (4 * dg.length + 5) else [] from rfl)
  by_cases hcb : canB size seed.length idx = true
  · have hcI : 1 ≤ size ∧ size ≤ 32 := by unfold canB at hcb; have := of_decide_eq_true hcb; omega
    rw [hcb] at HC HE HL
    clear hcb
    by_cases hln : (dg.length : Int) = size
    · rw [if_pos ⟨rfl, hln⟩] at HE HL
      subst hln
      rw [HE.out, HL.out]
      have hl32 : dg.length ≤ 32 := by omega
      have HDG := Lib.hid (digits_short dg (.slice da dg.length dc) hBd hl32 w hsd)
      have HDL := Lib.hid (digits_len dg hl32)
      have HDM := Lib.hid (fun j => digits_mem (a := dg) hl32 j)
      generalize digitsOf dg = DD at *
      go_enter Tryd.func82, Tryd.ntmps82
      go_wp2_with fail
      refine HC.out.mono ?_
      rintro e w1 ⟨rfl, rfl⟩
      go_wp2_with fail
      refine HDG.out.mono ?_
      rintro e w1 ⟨v1, rfl, hd1, hb1⟩
      obtain ⟨xa, xc, rfl, _, _⟩ := hd1.shape
      rw [List.length_map, HDL.out]
      have hs := hs.below hb1 (Nat.le_refl _)
      have ht := ht.below hb1
      have hb1s := hb1.size
      clear HDG hsd HC
      go_wp2
      go_loopw [10, 27] (fun l i wr => ∃ (k : Nat) (lv : Value), lv = l ∧ k ≤ 4 * dg.length + 5 ∧ i = .int .i64 k ∧ OSls wr w1.heap.size lv (sgU dg.length seed idx DD k) ∧ Below w1.heap.size w1 wr) (fun _ i _ => 4 * dg.length + 5 - (intOf i).toNat)
      case atStart => exact ⟨0, _, rfl, by omega, rfl, OSls.nil _ _, Below.refl _ _⟩
      case round =>
        obtain ⟨k, l, rfl, hk, rfl, hO, hbr1⟩ := hrel
        by_cases hlt : k < 4 * dg.length + 5
        · obtain ⟨xb, xo, rfl, hxb, hxc⟩ := hd1.ints (k := k) (by rw [HDL.out]; exact hlt)
          have hxk : wr.cell? ⟨xb, xo + k, none⟩ = some (.int .i64 (DD.getD k 0)) := by rw [hbr1.cell (p := ⟨xb, xo + k, none⟩) hxb]; exact hxc k (by rw [HDL.out]; exact hlt)
          have hdm := HDM.out k
          have HSN := Lib.hid (sgU_succ (dg.length : Int) seed idx DD k)
          generalize DD.getD k 0 = D at *
          obtain ⟨d, rfl⟩ : ∃ d : Nat, D = d := ⟨D.toNat, by omega⟩
          rw [Int.toNat_natCast] at HSN
          have hs := hs.below hbr1 (Nat.le_refl _)
          have ht := ht.below hbr1
          have hkI : (k : Int) < 4 * (dg.length : Int) + 5 := by omega
          clear hxc
          go_wp2_with fail
          refine (secret_any dg.length (.slice va vn vc) seed idx k wr hx0 hx1 (by omega) (by omega) hB hs ht).mono ?_
          rintro e w2 ⟨x1, rfl, hx1, hb2⟩
          have ht := ht.below hb2
          have hO := hO.below hb2
          have hbr1 := hbr1.trans (hb2.mono hbr1.size)
          clear hb2
          go_wp2_with fail
          refine (chain0_any dg.length x1 _ idx k d w2 (by assumption) (by assumption) (by omega) (by omega) (by omega) (by have := secI_len dg.length seed idx k; omega) (secI_isB _ _ _ _) hx1 ht).mono ?_
          rintro e w3 ⟨x2, rfl, hx2, hb3⟩
          have hO := hO.below hb3
          have hbr1 := hbr1.trans (hb3.mono hbr1.size)
          obtain ⟨a2, l2, c2, rfl⟩ := hx2.val
          have hbA : Below w3.heap.size w3 (w3.alloc (.cells #[.slice a2 l2 c2] 22)) := (Below.refl _ _).alloc (Nat.le_refl _) _
          have HLN := Lib.hid (show (sgU (dg.length : Int) seed idx DD k).length + 1 ≤ 5000000000000 by rw [sgU_len]; omega)
          have hO := hO.below hbA
          have hx2 := hx2.below hbA (Nat.le_refl _)
          have hbr1 := hbr1.trans (hbA.mono hbr1.size)
          have hc2 := (Blk.new w3 22 #[.slice a2 l2 c2]).cell 0
          clear hb3 hxk
          go_wp2_with (at_builtin; refine wpList_append_text rfl _ _ rfl w1.heap.size _ _ rfl hO w3.heap.size 1 rfl (.slice a2 l2 c2) hc2 _ hx2 HLN.out hbr1.size ?_)
          intro l5 w5 hO5 hb5 hg5
          have hbr1 := hbr1.trans hb5
          clear hg5 hb5 hO hx2 hc2 hbA
          go_wp2
          go_roundw
          case rel => exact ⟨k + 1, l5, rfl, by omega, by go_num, by rw [HSN.out]; exact hO5, hbr1⟩
          case measure => simp [intOf]; omega
        · obtain rfl : k = 4 * dg.length + 5 := by omega
          have hkI : ¬ (4 * (dg.length : Int) + 5 : Int) < 4 * (dg.length : Int) + 5 := by omega
          go_wp2
          go_ret2
          exact ⟨_, rfl, hO.sls, hb1.trans (hbr1.mono hb1s)⟩
    · rw [if_neg (fun h => hln h.2)] at HE HL
      rw [HE.out, HL.out]
      go_enter Tryd.func82, Tryd.ntmps82
      go_wp2_with fail
      refine HC.out.mono ?_
      rintro e w1 ⟨rfl, rfl⟩
      go_wp2
      go_ret2
      exact ⟨_, rfl, ⟨[], Sl.nil _, rfl, fun i u bs hu _ => by simp at hu⟩, Below.refl _ _⟩
  · rw [if_neg (fun h => hcb h.1)] at HE HL
    rw [Bool.not_eq_true] at hcb
    rw [hcb] at HC
    rw [HE.out, HL.out]
    clear hcb
    go_enter Tryd.func82, Tryd.ntmps82
    go_wp2_with fail
    refine HC.out.mono ?_
    rintro e w1 ⟨rfl, rfl⟩
    go_wp2
    go_ret2
    exact ⟨_, rfl, ⟨[], Sl.nil _, rfl, fun i u bs hu _ => by simp at hu⟩, Below.refl _ _⟩

set_option maxRecDepth 100000 in
set_option maxHeartbeats 1000000 in
theorem refSign_any (size : Int) (v : Value) (seed : List Int) (idx : Int) (vd : Value) (dg : List Int) (w : World) (hx0 : -9223372036854775808 ≤ idx) (hx1 : idx ≤ 9223372036854775807)
    (hB : IsB seed) (hs : Sl w v (seed.map (Value.int .u8))) (hBd : IsB dg) (hsd : Sl w vd (dg.map (Value.int .u8))) :
    Calls Tryd.prog 91 #[.int .i64 size, v, .int .i64 idx, vd] w fun e w' => ∃ x, e = .returned (.tuple #[x, .int .i64 (signE size seed.length idx dg.length)]) ∧ Sls w' x (signL size seed idx dg) ∧ Below w.heap.size w w' := by
  have HC := Lib.hid (refCan_any size v seed idx w hs)
  obtain ⟨va, vn, vc, rfl⟩ := hs.val
  obtain ⟨da, dc, rfl, hdc, _⟩ := hsd.shape
  rw [List.length_map] at *
  have HE := Lib.hid (show signE size seed.length idx dg.length = if canB size seed.length idx = true ∧ (dg.length : Int) = size then 0 else 1 from rfl)
  have HL := Lib.hid (show signL size seed idx dg = if canB size seed.length idx = true ∧ (dg.length : Int) = size then sgU size seed idx (digitsOf dg) (4 * dg.length + 5) else [] from rfl)
  by_cases hcb : canB size seed.length idx = true
  · have hcI : 1 ≤ size ∧ size ≤ 32 := by unfold canB at hcb; have := of_decide_eq_true hcb; omega
    rw [hcb] at HC HE HL
    clear hcb
    by_cases hln : (dg.length : Int) = size
    · rw [if_pos ⟨rfl, hln⟩] at HE HL
      subst hln
      rw [HE.out, HL.out]
      have hl32 : dg.length ≤ 32 := by omega
      have HDG := Lib.hid (refDigits_short dg (.slice da dg.length dc) hBd hl32 w hsd)
      have HDL := Lib.hid (digits_len dg hl32)
      have HDM := Lib.hid (fun j => digits_mem (a := dg) hl32 j)
      generalize digitsOf dg = DD at *
      go_enter Tryd.func91, Tryd.ntmps91
      go_wp2_with fail
      refine HC.out.mono ?_
      rintro e w1 ⟨rfl, rfl⟩
      go_wp2_with fail
      refine HDG.out.mono ?_
      rintro e w1 ⟨v1, rfl, hd1, hb1⟩
      obtain ⟨xa, xc, rfl, _, _⟩ := hd1.shape
      rw [List.length_map, HDL.out]
      have hs := hs.below hb1 (Nat.le_refl _)
      
      have hb1s := hb1.size
      clear HDG hsd HC
      go_wp2
      go_loopw [10, 27] (fun l i wr => ∃ (k : Nat) (lv : Value), lv = l ∧ k ≤ 4 * dg.length + 5 ∧ i = .int .i64 k ∧ OSls wr w1.heap.size lv (sgU dg.length seed idx DD k) ∧ Below w1.heap.size w1 wr) (fun _ i _ => 4 * dg.length + 5 - (intOf i).toNat)
      case atStart => exact ⟨0, _, rfl, by omega, rfl, OSls.nil _ _, Below.refl _ _⟩
      case round =>
        obtain ⟨k, l, rfl, hk, rfl, hO, hbr1⟩ := hrel
        by_cases hlt : k < 4 * dg.length + 5
        · obtain ⟨xb, xo, rfl, hxb, hxc⟩ := hd1.ints (k := k) (by rw [HDL.out]; exact hlt)
          have hxk : wr.cell? ⟨xb, xo + k, none⟩ = some (.int .i64 (DD.getD k 0)) := by rw [hbr1.cell (p := ⟨xb, xo + k, none⟩) hxb]; exact hxc k (by rw [HDL.out]; exact hlt)
          have hdm := HDM.out k
          have HSN := Lib.hid (sgU_succ (dg.length : Int) seed idx DD k)
          generalize DD.getD k 0 = D at *
          obtain ⟨d, rfl⟩ : ∃ d : Nat, D = d := ⟨D.toNat, by omega⟩
          rw [Int.toNat_natCast] at HSN
          have hs := hs.below hbr1 (Nat.le_refl _)
          
          have hkI : (k : Int) < 4 * (dg.length : Int) + 5 := by omega
          clear hxc
          go_wp2_with fail
          refine (refSecret_any dg.length (.slice va vn vc) seed idx k wr hx0 hx1 (by omega) (by omega) hB hs).mono ?_
          rintro e w2 ⟨x1, rfl, hx1, hb2⟩
          
          have hO := hO.below hb2
          have hbr1 := hbr1.trans (hb2.mono hbr1.size)
          clear hb2
          go_wp2_with fail
          refine (refChain0_any dg.length x1 _ idx k d w2 (by assumption) (by assumption) (by omega) (by omega) (by omega) (by have := secI_len dg.length seed idx k; omega) (secI_isB _ _ _ _) hx1).mono ?_
          rintro e w3 ⟨x2, rfl, hx2, hb3⟩
          have hO := hO.below hb3
          have hbr1 := hbr1.trans (hb3.mono hbr1.size)
          obtain ⟨a2, l2, c2, rfl⟩ := hx2.val
          have hbA : Below w3.heap.size w3 (w3.alloc (.cells #[.slice a2 l2 c2] 22)) := (Below.refl _ _).alloc (Nat.le_refl _) _
          have HLN := Lib.hid (show (sgU (dg.length : Int) seed idx DD k).length + 1 ≤ 5000000000000 by rw [sgU_len]; omega)
          have hO := hO.below hbA
          have hx2 := hx2.below hbA (Nat.le_refl _)
          have hbr1 := hbr1.trans (hbA.mono hbr1.size)
          have hc2 := (Blk.new w3 22 #[.slice a2 l2 c2]).cell 0
          clear hb3 hxk
          go_wp2_with (at_builtin; refine wpList_append_text rfl _ _ rfl w1.heap.size _ _ rfl hO w3.heap.size 1 rfl (.slice a2 l2 c2) hc2 _ hx2 HLN.out hbr1.size ?_)
          intro l5 w5 hO5 hb5 hg5
          have hbr1 := hbr1.trans hb5
          clear hg5 hb5 hO hx2 hc2 hbA
          go_wp2
          go_roundw
          case rel => exact ⟨k + 1, l5, rfl, by omega, by go_num, by rw [HSN.out]; exact hO5, hbr1⟩
          case measure => simp [intOf]; omega
        · obtain rfl : k = 4 * dg.length + 5 := by omega
          have hkI : ¬ (4 * (dg.length : Int) + 5 : Int) < 4 * (dg.length : Int) + 5 := by omega
          go_wp2
          go_ret2
          exact ⟨_, rfl, hO.sls, hb1.trans (hbr1.mono hb1s)⟩
    · rw [if_neg (fun h => hln h.2)] at HE HL
      rw [HE.out, HL.out]
      go_enter Tryd.func91, Tryd.ntmps91
      go_wp2_with fail
      refine HC.out.mono ?_
      rintro e w1 ⟨rfl, rfl⟩
      go_wp2
      go_ret2
      exact ⟨_, rfl, ⟨[], Sl.nil _, rfl, fun i u bs hu _ => by simp at hu⟩, Below.refl _ _⟩
  · rw [if_neg (fun h => hcb h.1)] at HE HL
    rw [Bool.not_eq_true] at hcb
    rw [hcb] at HC
    rw [HE.out, HL.out]
    clear hcb
    go_enter Tryd.func91, Tryd.ntmps91
    go_wp2_with fail
    refine HC.out.mono ?_
    rintro e w1 ⟨rfl, rfl⟩
    go_wp2
    go_ret2
    exact ⟨_, rfl, ⟨[], Sl.nil _, rfl, fun i u bs hu _ => by simp at hu⟩, Below.refl _ _⟩


end Go.Proofs.YtililoojjfcfgaaDoor

namespace Go.Proofs.YtililoojjfcfgaaDoor
open Go.RowKit
set_option linter.unusedVariables false

def catI (f : Nat → List Int) : Nat → List Int
  | 0 => []
  | n + 1 => catI f n ++ f n
theorem catI_isB {f : Nat → List Int} (h : ∀ i, IsB (f i)) : ∀ n, IsB (catI f n)
  | 0 => fun x hx => by cases hx
  | n + 1 => (catI_isB h n).append (h n)
theorem catI_len {f : Nat → List Int} (h : ∀ i, (f i).length ≤ 32) : ∀ n, (catI f n).length ≤ 32 * n
  | 0 => by simp [catI]
  | n + 1 => by have := catI_len h n; have := h n; simp only [catI, List.length_append]; omega
theorem catI_congr {f g : Nat → List Int} : ∀ n, (∀ i, i < n → f i = g i) → catI f n = catI g n
  | 0, _ => rfl
  | n + 1, h => by simp only [catI]; rw [catI_congr n (fun i hi => h i (by omega)), h n (by omega)]


set_option maxRecDepth 100000 in
set_option maxHeartbeats 1000000 in
theorem endKey_any (c1 c2 c3 : Nat) (n : Nat) (hn : n ≤ 100) (idx : Int) (hx0 : -9223372036854775808 ≤ idx) (hx1 : idx ≤ 9223372036854775807) (f : Nat → List Int) (hf : ∀ i, IsB (f i)) (hfl : ∀ i, (f i).length ≤ 32) (I : World → Prop) (hI : ∀ w w', I w → Below w.heap.size w w' → I w')
    (hK : ∀ (i : Nat) (w : World), i < 4 * n + 5 → I w → Calls Tryd.prog 165 #[.int .i64 i, .pointer (some ⟨c1, 0, none⟩), .pointer (some ⟨c2, 0, none⟩), .pointer (some ⟨c3, 0, none⟩)] w fun e w' => ∃ x, e = .returned x ∧ Sl w' x ((f i).map (Value.int .u8)) ∧ Below w.heap.size w w') (w : World) (hIw : I w) (ht : Tabs w) :
    Calls Tryd.prog 135 #[.int .i64 n, .int .i64 idx, .func (.func 165) #[] #[.pointer (some ⟨c1, 0, none⟩), .pointer (some ⟨c2, 0, none⟩), .pointer (some ⟨c3, 0, none⟩)]] w fun e w' => ∃ x, e = .returned x ∧ Sl w' x ((hashT n 8 [numI idx, catI f (4 * n + 5)]).map (Value.int .u8)) ∧ Below w.heap.size w w' := by
  obtain ⟨i0, hi, hz0, hz1, hz2⟩ := info_parts info8c
  have HFL := Lib.hid (catI_len hfl)
  have HF1 := Lib.hid hfl
  clear hfl
  go_enter Tryd.func135, Tryd.ntmps135
  go_wp2_with fail
  refine (chains_any n w (by omega)).mono ?_
  rintro e w1 ⟨rfl, rfl⟩
  go_wp2
  go_loopw [7, 11] (fun l i wr => ∃ (k : Nat) (lv : Value), lv = l ∧ k ≤ 4 * n + 5 ∧ i = .int .i64 k ∧ wr.ownsRow w.heap.size 5 1 lv (catI f k).length ((catI f k).map (Value.int .u8)) ∧ Below w.heap.size w wr) (fun _ i _ => 4 * n + 5 - (intOf i).toNat)
  case atStart => exact ⟨0, _, rfl, by omega, rfl, World.ownsRow_nil _ _ _ _, Below.refl _ _⟩
  case round =>
    obtain ⟨k, l, rfl, hk, rfl, hown, hbr⟩ := hrel
    by_cases hlt : k < 4 * n + 5
    · have hkI : (k : Int) < ((4 * n + 5 : Nat) : Int) := by omega
      have HLN := Lib.hid (show (catI f k).length + (f k).length ≤ 100000 by have := HFL.out k; have := HF1.out k; omega)
      go_wp2_with fail
      refine (hK k wr hlt (hI _ _ hIw hbr)).mono ?_
      rintro e w2 ⟨x, rfl, hx, hb2⟩
      have hown := ownsRow_below hown hb2 (Nat.le_refl _)
      have hbr := hbr.trans (hb2.mono hbr.size)
      clear hb2
      obtain ⟨xa, xn, xc, rfl⟩ := hx.val
      go_wp2_with (at_builtin; refine wpList_append_sl rfl _ _ 22 rfl w.heap.size 5 i0 (.int .u8 0) 1 Tryd.underlying22 hi hz0 hz1 hz2 rfl _ _ _ rfl hown (.slice xa xn xc) ((f k).map (Value.int .u8)) rfl hx (one8 _) (by have := HLN.out; rw [List.length_map]; unfold maxLen; omega) (by have := HLN.out; rw [List.length_map]; omega) hbr.size ?_)
      intro v3 w3 hown3 hg3
      have hb3 := below_grown hbr hown (Nat.le_refl _) hbr.size hg3
      clear hg3 hown hx hbr
      go_wp2
      go_roundw
      case rel => exact ⟨k + 1, v3, rfl, by omega, by go_num, by simpa [catI] using hown3, hb3⟩
      case measure => simp [intOf]; omega
    · obtain rfl : k = 4 * n + 5 := by omega
      have hkI : ¬ ((4 * n + 5 : Nat) : Int) < ((4 * n + 5 : Nat) : Int) := by omega
      have hs := Sl.of_owns hown
      have hCB := catI_isB hf (4 * n + 5)
      have htr := ht.below hbr
      obtain ⟨C, hC⟩ : ∃ C, C = catI f (4 * n + 5) := ⟨_, rfl⟩
      rw [← hC] at hs hCB
      have HCe := Lib.hid hC
      clear hC
      obtain ⟨va, vn, vc, rfl⟩ := hs.val
      clear hown hIw hK hI hf
      go_wp2_with fail
      refine (number_any idx wr hx0 hx1).mono ?_
      rintro e w2 ⟨n1, rfl, hn1, hb2⟩
      have hs := hs.below hb2 (Nat.le_refl _)
      have htr := htr.below hb2
      have hbr := hbr.trans (hb2.mono hbr.size)
      obtain ⟨a1, m1, d1, rfl⟩ := hn1.val
      have hL := Sls.litA _ 22 (show SlAll w2 [.slice a1 m1 d1, .slice va vn vc] [numI idx, C] from ⟨hn1, hs, trivial⟩) (by simp [maxLen])
      have hb0 : Below w2.heap.size w2 (w2.alloc (.cells #[.slice a1 m1 d1, .slice va vn vc] 22)) := (Below.refl _ _).alloc (Nat.le_refl _) _
      have hbA := hbr.trans (hb0.mono hbr.size)
      have htA := htr.below hb0
      have HH := Lib.hid (hash_any n 8 _ _ _ (by simp) (by decide) (by decide) hL (fun p hp => by
        simp only [List.mem_cons, List.not_mem_nil, or_false] at hp
        rcases hp with rfl | rfl
        · exact numI_isB _
        · exact hCB) htA)
      clear hL hs hn1 hb2 hb0 htA htr hCB hbr
      go_wp2_with fail
      refine HH.out.mono ?_
      rintro e w5 ⟨y, rfl, hy, hb5⟩
      have hbr := hbA.trans (hb5.mono hbA.size)
      go_wp2
      go_ret
      exact ⟨_, rfl, by rw [← HCe.out]; exact hy, hbr⟩


/-- A chain's end, from its beginning on. -/
def endK (size : Int) (seed : List Int) (idx : Int) (i : Nat) : List Int := chI size idx i 0 (secI size seed idx i) 3
theorem endK_isB (size : Int) (seed : List Int) (idx : Int) (i : Nat) : IsB (endK size seed idx i) := chI_isB _ _ _ _ _ (secI_isB _ _ _ _) _
theorem endK_len (size : Int) (seed : List Int) (idx : Int) (i : Nat) : (endK size seed idx i).length ≤ 32 := by
  have := chI_len size idx i 0 (secI size seed idx i) 3; have := secI_len size seed idx i; unfold endK; omega

set_option maxRecDepth 100000 in
set_option maxHeartbeats 1000000 in
theorem key1_any (size : Int) (v : Value) (seed : List Int) (idx : Int) (i : Nat) (c1 c2 c3 : Nat) (w : World) (hx0 : -9223372036854775808 ≤ idx) (hx1 : idx ≤ 9223372036854775807) (hi : i ≤ 1000)
    (k1 : Blk w c1 3 #[.int .i64 size]) (k2 : Blk w c2 22 #[v]) (k3 : Blk w c3 3 #[.int .i64 idx]) (hB : IsB seed) (hs : Sl w v (seed.map (Value.int .u8))) (ht : Tabs w) :
    Calls Tryd.prog 165 #[.int .i64 i, .pointer (some ⟨c1, 0, none⟩), .pointer (some ⟨c2, 0, none⟩), .pointer (some ⟨c3, 0, none⟩)] w fun e w' => ∃ x, e = .returned x ∧ Sl w' x ((endK size seed idx i).map (Value.int .u8)) ∧ Below w.heap.size w w' := by
  obtain ⟨va, vn, vc, rfl⟩ := hs.val
  have q1 : w.cell? ⟨c1, 0, none⟩ = some (.int .i64 size) := k1.cell 0
  have q2 : w.cell? ⟨c2, 0, none⟩ = some (.slice va vn vc) := k2.cell 0
  have q3 : w.cell? ⟨c3, 0, none⟩ = some (.int .i64 idx) := k3.cell 0
  have l1 := k1.lt
  have l2 := k2.lt
  have l3 := k3.lt
  have HS := Lib.hid (fun w1 (h : Below w.heap.size w w1) => secret_any size (.slice va vn vc) seed idx i w1 hx0 hx1 (by omega) (by omega) hB (hs.below h (Nat.le_refl _)) (ht.below h))
  have HT := Lib.hid (fun w1 (h : Below w.heap.size w w1) => ht.below h)
  clear k1 k2 k3 hs ht
  go_enter Tryd.func165, Tryd.ntmps165
  go_wp2
  go_region_held3 (fun w' => w'.cell? ⟨c1, 0, none⟩ = some (.int .i64 size) ∧ w'.cell? ⟨c2, 0, none⟩ = some (.slice va vn vc) ∧ w'.cell? ⟨c3, 0, none⟩ = some (.int .i64 idx))
    (first | exact ⟨q1, q2, q3⟩ | exact ⟨(hb1.cell (p := ⟨c1, 0, none⟩) l1).trans q1, (hb1.cell (p := ⟨c2, 0, none⟩) l2).trans q2, (hb1.cell (p := ⟨c3, 0, none⟩) l3).trans q3⟩ | exact ⟨((hb2.cell (p := ⟨c1, 0, none⟩) (Nat.lt_of_lt_of_le l1 hb1.size)).trans (hb1.cell (p := ⟨c1, 0, none⟩) l1)).trans q1, ((hb2.cell (p := ⟨c2, 0, none⟩) (Nat.lt_of_lt_of_le l2 hb1.size)).trans (hb1.cell (p := ⟨c2, 0, none⟩) l2)).trans q2, ((hb2.cell (p := ⟨c3, 0, none⟩) (Nat.lt_of_lt_of_le l3 hb1.size)).trans (hb1.cell (p := ⟨c3, 0, none⟩) l3)).trans q3⟩)
    (first | (go_at_call 123; refine (HS.out _ (by first | exact Below.refl _ _ | exact (Below.refl _ _).drew)).mono ?_; rintro e w1 ⟨x1, rfl, hx1', hb1⟩; have hb1 : Below w.heap.size w w1 := ⟨hb1.os, hb1.tape, hb1.output, hb1.size, hb1.block⟩) | (go_at_call 122; refine (chain03_any size x1 _ idx i w1 hx0 hx1 (by omega) (by omega) (by have := secI_len size seed idx i; omega) (secI_isB _ _ _ _) hx1' (HT.out _ hb1)).mono ?_; rintro e w2 ⟨x2, rfl, hx2, hb2⟩))
  go_wp2
  go_ret
  exact ⟨_, rfl, hx2, below_trans2 hb1 hb2⟩

/-- What Key returns. -/
def keyE (size : Int) (n : Nat) (idx : Int) : Int := if canB size n idx = true then 0 else 1
def keyL (size : Int) (seed : List Int) (idx : Int) : List Int := if canB size seed.length idx = true then hashT size 8 [numI idx, catI (endK size seed idx) (4 * size.toNat + 5)] else []
theorem keyL_isB (size : Int) (seed : List Int) (idx : Int) : IsB (keyL size seed idx) := by
  unfold keyL; split
  · exact hashT_isB' _ _ _
  · intro x hx; cases hx

set_option maxRecDepth 100000 in
set_option maxHeartbeats 1000000 in
theorem key_any (size : Int) (v : Value) (seed : List Int) (idx : Int) (w : World) (hx0 : -9223372036854775808 ≤ idx) (hx1 : idx ≤ 9223372036854775807) (hB : IsB seed) (hs : Sl w v (seed.map (Value.int .u8))) (ht : Tabs w) :
    Calls Tryd.prog 154 #[.int .i64 size, v, .int .i64 idx] w fun e w' => ∃ x, e = .returned (.tuple #[x, .int .i64 (keyE size seed.length idx)]) ∧ Sl w' x ((keyL size seed idx).map (Value.int .u8)) ∧ Below w.heap.size w w' := by
  obtain ⟨va, vn, vc, rfl⟩ := hs.val
  have HC := Lib.hid (fun w1 (h : Below w.heap.size w w1) => can_any size (.slice va vn vc) seed idx w1 (hs.below h (Nat.le_refl _)))
  have HE := Lib.hid (show keyE size seed.length idx = if canB size seed.length idx = true then 0 else 1 from rfl)
  have HL := Lib.hid (show keyL size seed idx = if canB size seed.length idx = true then hashT size 8 [numI idx, catI (endK size seed idx) (4 * size.toNat + 5)] else [] from rfl)
  have hb3 : Below w.heap.size w (((w.alloc (.cells #[.int .i64 size] 3)).alloc (.cells #[.slice va vn vc] 22)).alloc (.cells #[.int .i64 idx] 3)) := (((Below.refl _ _).alloc (Nat.le_refl _) _).alloc (by simp) _).alloc (by simp; omega) _
  have k1 : Blk (((w.alloc (.cells #[.int .i64 size] 3)).alloc (.cells #[.slice va vn vc] 22)).alloc (.cells #[.int .i64 idx] 3)) w.heap.size 3 #[.int .i64 size] := ((Blk.new w _ _).alloc _).alloc _
  have k2 : Blk (((w.alloc (.cells #[.int .i64 size] 3)).alloc (.cells #[.slice va vn vc] 22)).alloc (.cells #[.int .i64 idx] 3)) (w.heap.size + 1) 22 #[.slice va vn vc] := by
    have := (Blk.new (w.alloc (.cells #[.int .i64 size] 3)) 22 #[.slice va vn vc]).alloc (.cells #[.int .i64 idx] 3)
    simpa using this
  have k3 : Blk (((w.alloc (.cells #[.int .i64 size] 3)).alloc (.cells #[.slice va vn vc] 22)).alloc (.cells #[.int .i64 idx] 3)) (w.heap.size + 2) 3 #[.int .i64 idx] := by
    have := Blk.new ((w.alloc (.cells #[.int .i64 size] 3)).alloc (.cells #[.slice va vn vc] 22)) 3 #[.int .i64 idx]
    simpa using this
  have HS := Lib.hid hs
  have HT := Lib.hid ht
  clear hs ht
  by_cases hcb : canB size seed.length idx = true
  · have hcI : 1 ≤ size ∧ size ≤ 32 := by unfold canB at hcb; have := of_decide_eq_true hcb; omega
    rw [hcb] at HC HE HL
    rw [if_pos rfl] at HE HL
    rw [HE.out, HL.out]
    obtain ⟨n, rfl⟩ : ∃ n : Nat, size = n := ⟨size.toNat, by omega⟩
    rw [Int.toNat_natCast]
    clear hcb
    go_enter Tryd.func154, Tryd.ntmps154
    go_wp2_with fail
    generalize (((w.alloc (.cells #[.int .i64 n] 3)).alloc (.cells #[.slice va vn vc] 22)).alloc (.cells #[.int .i64 idx] 3)) = w3 at *
    refine (HC.out w3 hb3).mono ?_
    rintro e w4 ⟨rfl, rfl⟩
    have q1 := k1.cell 0
    have q2 := k2.cell 0
    have q3 := k3.cell 0
    go_wp2_with fail
    refine (endKey_any w.heap.size (w.heap.size + 1) (w.heap.size + 2) n (by omega) idx hx0 hx1 (endK n seed idx) (endK_isB _ _ _) (endK_len _ _ _) (fun wx => Below w3.heap.size w3 wx) (fun wx wy h1 h2 => below_trans2 h1 h2) ?hK w3 (Below.refl _ _) (HT.out.below hb3)).mono ?_
    case hK =>
      intro i wx hi hbx
      exact key1_any n (.slice va vn vc) seed idx i _ _ _ wx hx0 hx1 (by omega) (k1.belowS hbx) (k2.belowS hbx) (k3.belowS hbx) hB ((HS.out.below hb3 (Nat.le_refl _)).below hbx (Nat.le_refl _)) ((HT.out.below hb3).below hbx)
    rintro e w4 ⟨x, rfl, hx, hb4⟩
    have hb4 := below_trans2 hb3 hb4
    clear k1 k2 k3 q1 q2 q3
    go_wp2
    go_ret2
    exact ⟨_, rfl, hx, hb4⟩
  · rw [if_neg hcb] at HE HL
    rw [Bool.not_eq_true] at hcb
    rw [hcb] at HC
    rw [HE.out, HL.out]
    clear hcb
    go_enter Tryd.func154, Tryd.ntmps154
    go_wp2_with fail
    generalize (((w.alloc (.cells #[.int .i64 size] 3)).alloc (.cells #[.slice va vn vc] 22)).alloc (.cells #[.int .i64 idx] 3)) = w3 at *
    refine (HC.out w3 hb3).mono ?_
    rintro e w4 ⟨rfl, rfl⟩
    go_wp2
    go_ret2
    exact ⟨_, rfl, Sl.nil _, hb3⟩

set_option maxRecDepth 100000 in
set_option maxHeartbeats 1000000 in
theorem refKey_any (size : Int) (v : Value) (seed : List Int) (idx : Int) (w : World) (hx0 : -9223372036854775808 ≤ idx) (hx1 : idx ≤ 9223372036854775807) (hB : IsB seed) (hs : Sl w v (seed.map (Value.int .u8))) :
    Calls Tryd.prog 71 #[.int .i64 size, v, .int .i64 idx] w fun e w' => ∃ x, e = .returned (.tuple #[x, .int .i64 (keyE size seed.length idx)]) ∧ Sl w' x ((keyL size seed idx).map (Value.int .u8)) ∧ Below w.heap.size w w' := by
  obtain ⟨i0, hi, hz0, hz1, hz2⟩ := info_parts info8c
  obtain ⟨va, vn, vc, rfl⟩ := hs.val
  have HC := Lib.hid (refCan_any size (.slice va vn vc) seed idx w hs)
  have HE := Lib.hid (show keyE size seed.length idx = if canB size seed.length idx = true then 0 else 1 from rfl)
  have HL := Lib.hid (show keyL size seed idx = if canB size seed.length idx = true then hashT size 8 [numI idx, catI (endK size seed idx) (4 * size.toNat + 5)] else [] from rfl)
  by_cases hcb : canB size seed.length idx = true
  · have hcI : 1 ≤ size ∧ size ≤ 32 := by unfold canB at hcb; have := of_decide_eq_true hcb; omega
    rw [hcb] at HC HE HL
    rw [if_pos rfl] at HE HL
    rw [HE.out, HL.out]
    obtain ⟨n, rfl⟩ : ∃ n : Nat, size = n := ⟨size.toNat, by omega⟩
    rw [Int.toNat_natCast]
    have HFL := Lib.hid (catI_len (endK_len (n : Int) seed idx))
    have HF1 := Lib.hid (endK_len (n : Int) seed idx)
    have HCB := Lib.hid (catI_isB (endK_isB (n : Int) seed idx) (4 * n + 5))
    clear hcb
    go_enter Tryd.func71, Tryd.ntmps71
    go_wp2_with fail
    refine HC.out.mono ?_
    rintro e w1 ⟨rfl, rfl⟩
    go_wp2
    go_loopw [8, 18] (fun l i wr => ∃ (k : Nat) (lv : Value), lv = l ∧ k ≤ 4 * n + 5 ∧ i = .int .i64 k ∧ wr.ownsRow w.heap.size 5 1 lv (catI (endK n seed idx) k).length ((catI (endK n seed idx) k).map (Value.int .u8)) ∧ Below w.heap.size w wr) (fun _ i _ => 4 * n + 5 - (intOf i).toNat)
    case atStart => exact ⟨0, _, rfl, by omega, rfl, World.ownsRow_nil _ _ _ _, Below.refl _ _⟩
    case round =>
      obtain ⟨k, l, rfl, hk, rfl, hown, hbr⟩ := hrel
      by_cases hlt : k < 4 * n + 5
      · have hkI : (k : Int) < 4 * (n : Int) + 5 := by omega
        have HLN := Lib.hid (show (catI (endK n seed idx) k).length + (endK n seed idx k).length ≤ 100000 by have := HFL.out k; have := HF1.out k; omega)
        have HEK := Lib.hid (show chI n idx k 0 (secI n seed idx k) 3 = endK n seed idx k from rfl)
        go_wp2_with fail
        refine (refSecret_any n (.slice va vn vc) seed idx k wr hx0 hx1 (by omega) (by omega) hB (hs.below hbr (Nat.le_refl _))).mono ?_
        rintro e w2 ⟨x1, rfl, hx1', hb2⟩
        have hown := ownsRow_below hown hb2 (Nat.le_refl _)
        have hbr := hbr.trans (hb2.mono hbr.size)
        clear hb2
        go_wp2_with fail
        refine (refChain03_any n x1 _ idx k w2 hx0 hx1 (by omega) (by omega) (by have := secI_len n seed idx k; omega) (secI_isB _ _ _ _) hx1').mono ?_
        rintro e w3 ⟨x2, rfl, hx2, hb3⟩
        rw [HEK.out] at hx2
        have hown := ownsRow_below hown hb3 (Nat.le_refl _)
        have hbr := hbr.trans (hb3.mono hbr.size)
        clear hb3 hx1'
        obtain ⟨xa, xn, xc, rfl⟩ := hx2.val
        go_wp2_with (at_builtin; refine wpList_append_sl rfl _ _ 22 rfl w.heap.size 5 i0 (.int .u8 0) 1 Tryd.underlying22 hi hz0 hz1 hz2 rfl _ _ _ rfl hown (.slice xa xn xc) ((endK n seed idx k).map (Value.int .u8)) rfl hx2 (one8 _) (by have := HLN.out; rw [List.length_map]; unfold maxLen; omega) (by have := HLN.out; rw [List.length_map]; omega) hbr.size ?_)
        intro v3 w4 hown3 hg3
        have hb3 := below_grown hbr hown (Nat.le_refl _) hbr.size hg3
        clear hg3 hown hx2 hbr
        go_wp2
        go_roundw
        case rel => exact ⟨k + 1, v3, rfl, by omega, by go_num, by simpa [catI] using hown3, hb3⟩
        case measure => simp [intOf]; omega
      · obtain rfl : k = 4 * n + 5 := by omega
        have hkI : ¬ 4 * (n : Int) + 5 < 4 * (n : Int) + 5 := by omega
        have hs2 := Sl.of_owns hown
        clear hown
        go_wp2_with fail
        refine (refKey0_any n idx _ _ wr hx0 hx1 HCB.out hs2).mono ?_
        rintro e w2 ⟨y, rfl, hy, hb2⟩
        have hbr := hbr.trans (hb2.mono hbr.size)
        go_wp2
        go_ret2
        exact ⟨_, rfl, hy, hbr⟩
  · rw [if_neg hcb] at HE HL
    rw [Bool.not_eq_true] at hcb
    rw [hcb] at HC
    rw [HE.out, HL.out]
    clear hcb
    go_enter Tryd.func71, Tryd.ntmps71
    go_wp2_with fail
    refine HC.out.mono ?_
    rintro e w1 ⟨rfl, rfl⟩
    go_wp2
    go_ret2
    exact ⟨_, rfl, Sl.nil _, Below.refl _ _⟩


end Go.Proofs.YtililoojjfcfgaaDoor
