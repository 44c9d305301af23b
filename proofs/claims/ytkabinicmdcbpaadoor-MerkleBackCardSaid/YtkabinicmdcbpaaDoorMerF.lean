/- The walks of next and of the folder's root. -/
import Derived.Test.YtkabinicmdcbpaaDoorMerE
import Derived.Test.YtkabinicmdcbpaaDoorSizedF
namespace Go.Proofs.YtkabinicmdcbpaaDoor
open Go.RowKit
set_option linter.unusedVariables false

/-- The root over a part out of two lists of digests, and what is left of these. -/
def foldI (size f t : Int) (a : Int) (n : Nat) (ins os : List (List Int)) : List Int × List (List Int) × List (List Int) :=
  if ¬ (f < t ∧ f < a + n ∧ a < t) then (os.headD [], ins, os.tail)
  else if h : 2 ≤ n then
    (hashT size 4 [(foldI size f t a (half n) ins os).1, (foldI size f t (a + half n) (n - half n) (foldI size f t a (half n) ins os).2.1 (foldI size f t a (half n) ins os).2.2).1],
      (foldI size f t (a + half n) (n - half n) (foldI size f t a (half n) ins os).2.1 (foldI size f t a (half n) ins os).2.2).2)
  else (ins.headD [], ins.tail, os)
termination_by n
decreasing_by
  all_goals (have := half_lt n h; have := half_pos n; omega)

theorem foldI_out {size f t a : Int} {n : Nat} {ins os : List (List Int)} (h : ¬ (f < t ∧ f < a + n ∧ a < t)) : foldI size f t a n ins os = (os.headD [], ins, os.tail) := by rw [foldI, if_pos h]
theorem foldI_in {size f t a : Int} {ins os : List (List Int)} (h : f < t ∧ f < a + (1 : Nat) ∧ a < t) : foldI size f t a 1 ins os = (ins.headD [], ins.tail, os) := by rw [foldI, if_neg (fun h' => h' h), dif_neg (by omega)]
theorem foldI_two {size f t a : Int} {n : Nat} {ins os : List (List Int)} (h : f < t ∧ f < a + n ∧ a < t) (h2 : 2 ≤ n) : foldI size f t a n ins os = (hashT size 4 [(foldI size f t a (half n) ins os).1, (foldI size f t (a + half n) (n - half n) (foldI size f t a (half n) ins os).2.1 (foldI size f t a (half n) ins os).2.2).1],
      (foldI size f t (a + half n) (n - half n) (foldI size f t a (half n) ins os).2.1 (foldI size f t a (half n) ins os).2.2).2) := by rw [foldI, if_neg (fun h' => h' h), dif_pos h2]

/-- Whether there are enough digests for a part. -/
def enough (f t : Int) (a : Int) (n : Nat) (size : Int) (ins os : List (List Int)) : Prop :=
  if ¬ (f < t ∧ f < a + n ∧ a < t) then os ≠ []
  else if h : 2 ≤ n then enough f t a (half n) size ins os ∧ enough f t (a + half n) (n - half n) size (foldI size f t a (half n) ins os).2.1 (foldI size f t a (half n) ins os).2.2
  else ins ≠ []
termination_by n
decreasing_by
  all_goals (have := half_lt n h; have := half_pos n; omega)
theorem enough_out {size f t a : Int} {n : Nat} {ins os : List (List Int)} (h : ¬ (f < t ∧ f < a + n ∧ a < t)) (he : enough f t a n size ins os) : os ≠ [] := by rw [enough, if_pos h] at he; exact he
theorem enough_in {size f t a : Int} {ins os : List (List Int)} (h : f < t ∧ f < a + (1 : Nat) ∧ a < t) (he : enough f t a 1 size ins os) : ins ≠ [] := by rw [enough, if_neg (fun h' => h' h), dif_neg (by omega)] at he; exact he
theorem enough_two {size f t a : Int} {n : Nat} {ins os : List (List Int)} (h : f < t ∧ f < a + n ∧ a < t) (h2 : 2 ≤ n) (he : enough f t a n size ins os) : enough f t a (half n) size ins os ∧ enough f t (a + half n) (n - half n) size (foldI size f t a (half n) ins os).2.1 (foldI size f t a (half n) ins os).2.2 := by rw [enough, if_neg (fun h' => h' h), dif_pos h2] at he; exact he

theorem headD_mem {l : List (List Int)} {P : List Int → Prop} (h : ∀ p ∈ l, P p) (h0 : P []) : P (l.headD []) := by
  cases l with
  | nil => exact h0
  | cons x xs => exact h x (by simp)

theorem IsB.nil : IsB [] := fun x hx => by cases hx

theorem foldI_isB (size f t : Int) : ∀ (m n : Nat), n ≤ m → ∀ (a : Int) (ins os : List (List Int)), (∀ p ∈ ins, IsB p) → (∀ p ∈ os, IsB p) →
    IsB (foldI size f t a n ins os).1 ∧ (∀ p ∈ (foldI size f t a n ins os).2.1, IsB p) ∧ (∀ p ∈ (foldI size f t a n ins os).2.2, IsB p) := by
  intro m
  induction m with
  | zero =>
    intro n hn a ins os hi ho
    obtain rfl : n = 0 := by omega
    rw [foldI]
    split
    · exact ⟨headD_mem ho IsB.nil, hi, fun p hp => ho p (List.mem_of_mem_tail hp)⟩
    · rw [dif_neg (by omega)]
      exact ⟨headD_mem hi IsB.nil, fun p hp => hi p (List.mem_of_mem_tail hp), ho⟩
  | succ m ih =>
    intro n hn a ins os hi ho
    by_cases h : f < t ∧ f < a + n ∧ a < t
    · by_cases h2 : 2 ≤ n
      · rw [foldI_two h h2]
        have k1 := half_lt n h2
        have k2 := half_pos n
        obtain ⟨_, c2, c3⟩ := ih (half n) (by omega) a ins os hi ho
        obtain ⟨_, d2, d3⟩ := ih (n - half n) (by omega) (a + half n) _ _ c2 c3
        exact ⟨hashT_isB' _ _ _, d2, d3⟩
      · rw [foldI, if_neg (fun h' => h' h), dif_neg h2]
        exact ⟨headD_mem hi IsB.nil, fun p hp => hi p (List.mem_of_mem_tail hp), ho⟩
    · rw [foldI_out h]
      exact ⟨headD_mem ho IsB.nil, hi, fun p hp => ho p (List.mem_of_mem_tail hp)⟩

def NextPost (fb off : Nat) (l : List (List Int)) (W w : World) (e : Ending) (w' : World) : Prop :=
  ∃ x lv', e = .returned x ∧ Sl W x ((l.headD []).map (Value.int .u8)) ∧ Sls W lv' l.tail ∧ w.setCell ⟨fb, off, none⟩ lv' = w'

set_option maxHeartbeats 400000 in
theorem next_any (fb off : Nat) (lv : Value) (l : List (List Int)) (W w : World) (hne : l ≠ []) (hb : Below W.heap.size W w) (hs : Sls W lv l) (hc : w.cell? ⟨fb, off, none⟩ = some lv) (hf : w.frozen? ⟨fb, off, none⟩ = false) :
    Calls Tryd.prog 107 #[.pointer (some ⟨fb, off, none⟩)] w (NextPost fb off l W w) := by
  obtain ⟨la, lc, rfl, hlc, hlm⟩ := hs.shape
  have hlp : 0 < l.length := List.length_pos_iff.2 hne
  obtain ⟨b, o, rfl, hbl, u, hu, hsu⟩ := hs.at (k := 0) hlp
  have hu' : w.cell? ⟨b, o, none⟩ = some u := by rw [hb.cell (p := ⟨b, o, none⟩) hbl]; simpa using hu
  have hsd := hs.drop 1 (by omega)
  have HH := Lib.hid (show l.getD 0 [] = l.headD [] by cases l <;> rfl)
  rw [List.drop_one] at hsd
  rw [HH.out] at hsu
  have hlI : (0 : Int) < (l.length : Int) := by omega
  have hlI1 : (1 : Int) ≤ (l.length : Int) := by omega
  have hlcI : (1 : Int) ≤ (lc : Int) := by omega
  have HSD := Lib.hid hsd
  have HSU := Lib.hid hsu
  by_cases hc1 : lc = 1
  · rw [if_pos hc1] at HSD
    clear hsd hsu hs hu hne
    subst hc1
    obtain hl1 : l.length = 1 := by omega
    have HSD2 : Hid (Sls W (.slice (some ⟨b, o, none⟩) 0 0) l.tail) := by have := HSD.out; rw [hl1] at this; exact this
    rw [hl1] at *
    go_enter Tryd.func107, Tryd.ntmps107
    go_wp2
    go_ret
    exact ⟨_, _, rfl, HSU.out, HSD2.out, rfl⟩
  · rw [if_neg hc1, Option.map_some] at HSD
    clear hsd hsu hs hu hne
    go_enter Tryd.func107, Tryd.ntmps107
    go_wp2
    go_ret
    exact ⟨_, _, rfl, HSU.out, HSD.out, rfl⟩

theorem folder_notB {W : World} {size : Int} {iv ov : Value} {ins os : List (List Int)} (h1 : Sls W iv ins) (h2 : Sls W ov os) : ∀ c ∈ (#[Value.int .i64 size, iv, ov] : Array Value).toList, notB c := by
  obtain ⟨a, c, rfl, _, _⟩ := h1.shape
  obtain ⟨a2, c2, rfl, _, _⟩ := h2.shape
  intro u hu
  simp at hu
  rcases hu with rfl | rfl | rfl
  · intro n h; cases h
  · exact notB_slice _ _ _
  · exact notB_slice _ _ _

/-- What the folder's root does. -/
def FoldPost (size f t : Int) (a : Int) (n : Nat) (ins os : List (List Int)) (fb : Nat) (W w : World) (e : Ending) (w' : World) : Prop :=
  ∃ x iv ov, e = .returned x ∧ Sl w' x ((foldI size f t a n ins os).1.map (Value.int .u8)) ∧ Blk w' fb 113 #[.int .i64 size, iv, ov] ∧ Sls W iv (foldI size f t a n ins os).2.1 ∧ Sls W ov (foldI size f t a n ins os).2.2 ∧ w.grownBy w' (some fb)

set_option maxRecDepth 100000 in
set_option maxHeartbeats 1000000 in
theorem froot_any (size f t : Int) (fb : Nat) (W : World) (hfb : W.heap.size ≤ fb) (htW : Tabs W) : ∀ (m n : Nat), n ≤ m → 0 < n → ∀ (a : Int) (ins os : List (List Int)) (iv ov : Value) (w : World), (-1073741824 ≤ a ∧ a + n ≤ 1073741824) → enough f t a n size ins os →
    (∀ p ∈ ins, IsB p) → (∀ p ∈ os, IsB p) → Below W.heap.size W w → Blk w fb 113 #[.int .i64 size, iv, ov] → Sls W iv ins → Sls W ov os →
    Calls Tryd.prog 81 #[.pointer (some ⟨fb, 0, none⟩), .agg #[.int .i64 f, .int .i64 t], .int .i64 a, .int .i64 n] w (FoldPost size f t a n ins os fb W w) := by
  intro m
  induction m with
  | zero => intro n h1 h2; omega
  | succ m ih =>
    intro n hnm hn0 a ins os iv ov w ha he hBi hBo hbW kf hsi hso
    obtain ⟨ia, ic, rfl, hic, him⟩ := hsi.shape
    obtain ⟨oa, oc, rfl, hoc, hom⟩ := hso.shape
    have HM := Lib.hid (fun w1 (b : Bool) hb => holds_meets f t a n w1 b hb (by omega) (by omega))
    have hb0 : Below w.heap.size w (w.alloc (.cells #[.int .i64 f, .int .i64 t] 106)) := (Below.refl _ _).alloc (Nat.le_refl _) _
    have k0 := Blk.new w 106 #[.int .i64 f, .int .i64 t]
    have hbW1 := hbW.trans (hb0.mono hbW.size)
    have kf1 := kf.belowS hb0
    generalize hw1 : w.alloc (.cells #[.int .i64 f, .int .i64 t] 106) = w1 at *
    have p0 : w1.cell? ⟨w.heap.size, 0, none⟩ = some (.int .i64 f) := k0.cell 0
    have p1 : w1.cell? ⟨w.heap.size, 1, none⟩ = some (.int .i64 t) := k0.cell 1
    have hnI0 : (0 : Int) < (n : Int) := by omega
    by_cases hm : f < t ∧ f < a + n ∧ a < t
    · have HMM := Lib.hid (HM.out w1 true (decide_eq_true hm).symm)
      by_cases h2 : 2 ≤ n
      · have hk1 := half_lt n h2
        have hk2 := half_pos n
        obtain ⟨he1, he2⟩ := enough_two hm h2 he
        obtain ⟨bx, b1, b2⟩ := foldI_isB size f t (half n) (half n) (Nat.le_refl _) a ins os hBi hBo
        obtain ⟨by', _, _⟩ := foldI_isB size f t (n - half n) (n - half n) (Nat.le_refl _) (a + half n) _ _ b1 b2
        have HF := Lib.hid (foldI_two (size := size) (ins := ins) (os := os) hm h2)
        have HS := Lib.hid (fun w2 => split_any n w2 h2 (by omega))
        have HI1 := Lib.hid (fun w2 (h : Below W.heap.size W w2) k => ih (half n) (by omega) hk2 a ins os _ _ w2 (by omega) he1 hBi hBo h k hsi hso)
        have HI2 := Lib.hid (fun iv' ov' w2 (h : Below W.heap.size W w2) k h1 h2 => ih (n - half n) (by omega) (by omega) (a + half n) _ _ iv' ov' w2 (by omega) he2 b1 b2 h k h1 h2)
        rw [show ((n - half n : Nat) : Int) = (n : Int) - (half n : Int) by omega] at HI2
        have hn1I : ¬ (n : Int) = 1 := by omega
        have HBX := Lib.hid bx
        have HBY := Lib.hid by'
        have hkI : (half n : Int) ≤ 2147483648 := by omega
        generalize half n = k at *
        clear hm he he1 he2 bx by' b1 b2 ih hBi hBo hsi hso
        go_enter Tryd.func81, Tryd.ntmps81
        go_wp2_with fail
        refine HMM.out.mono ?_
        rintro e w2 ⟨rfl, hb2⟩
        have kf2 := kf1.belowS hb2
        have k02 := k0.belowS hb2
        have hbW2 := hbW1.trans (hb2.mono hbW1.size)
        clear p0 p1 kf1 k0 hbW1
        have p0 : w2.cell? ⟨w.heap.size, 0, none⟩ = some (.int .i64 f) := k02.cell 0
        have p1 : w2.cell? ⟨w.heap.size, 1, none⟩ = some (.int .i64 t) := k02.cell 1
        go_wp2_with fail
        refine (HS.out w2).mono ?_
        rintro e w3 ⟨rfl, rfl⟩
        go_wp2_with fail
        refine (HI1.out w2 hbW2 kf2).mono ?_
        rintro e w3 ⟨x1, iv', ov', rfl, hx1, kf3, hi3, ho3, hg3⟩
        have hbW3 := below_of_only hbW2 hg3 hfb hbW2.size
        have k03 : Blk w3 w.heap.size 106 #[.int .i64 f, .int .i64 t] := k02.grown hg3 (fun e => by injection e with e; exact Blk.ne_ k02 kf2 (by decide) e)
        have hgA := only_below (only_of_below hb0 (some fb)) hb2
        have hgA := World.grownBy.trans hgA hg3
        have HGA := Lib.hid hgA
        clear p0 p1 hg3 hgA hb2 hb0 k02 kf2 kf HI1
        have p0 : w3.cell? ⟨w.heap.size, 0, none⟩ = some (.int .i64 f) := k03.cell 0
        have p1 : w3.cell? ⟨w.heap.size, 1, none⟩ = some (.int .i64 t) := k03.cell 1
        have pf : w3.cell? ⟨fb, 0, none⟩ = some (.int .i64 size) := kf3.cell 0
        have HX1 := Lib.hid hx1
        clear hx1
        have hs1 : IntKind.i64.wrap (a + (k : Int)) = a + (k : Int) := by rw [IntKind.wrap_i64]; omega
        have hs2 : IntKind.i64.wrap ((n : Int) - (k : Int)) = (n : Int) - (k : Int) := by rw [IntKind.wrap_i64]; omega
        go_wp2
        go_region_held3 (fun w' => w'.cell? ⟨fb, 0, none⟩ = some (.int .i64 size) ∧ w'.cell? ⟨w.heap.size, 0, none⟩ = some (.int .i64 f) ∧ w'.cell? ⟨w.heap.size, 1, none⟩ = some (.int .i64 t))
          (first | exact ⟨pf, p0, p1⟩ | exact ⟨r0, r1, r2⟩ | exact ⟨s0, s1, s2⟩)
          (first | (go_at_call 78; refine (pair_any size x1 x2 _ _ w4 HBX.out HBY.out hx14 hx2 (htW.below hbW4)).mono ?_; rintro e w5 ⟨x3, rfl, hx3, hb5⟩; have s0 := (hb5.cell (p := ⟨fb, 0, none⟩) kf4.lt).trans r0; have s1 := (hb5.cell (p := ⟨w.heap.size, 0, none⟩) k04.lt).trans r1; have s2 := (hb5.cell (p := ⟨w.heap.size, 1, none⟩) k04.lt).trans r2) | (go_at_call 81; refine (HI2.out iv' ov' _ (by first | exact hbW3 | exact hbW3.drew) (by exact kf3) hi3 ho3).mono ?_; rintro e w4 ⟨x2, iv2, ov2, rfl, hx2, kf4, hi4, ho4, hg4⟩; have hg4 : w3.grownBy w4 (some fb) := ⟨hg4.os, hg4.tape, hg4.output, hg4.size, hg4.block⟩; have hbW4 := below_of_only hbW3 hg4 hfb hbW3.size; have k04 : Blk w4 w.heap.size 106 #[.int .i64 f, .int .i64 t] := k03.grown hg4 (fun e => by injection e with e; exact Blk.ne_ k03 kf3 (by decide) e); have r0 : w4.cell? ⟨fb, 0, none⟩ = some (.int .i64 size) := kf4.cell 0; have r1 : w4.cell? ⟨w.heap.size, 0, none⟩ = some (.int .i64 f) := k04.cell 0; have r2 : w4.cell? ⟨w.heap.size, 1, none⟩ = some (.int .i64 t) := k04.cell 1; have hx14 := HX1.out.keepB kf3 (folder_notB hi3 ho3) hg4))
        clear hs1 hs2
        have HG4 := Lib.hid (only_below (World.grownBy.trans HGA.out hg4) hb5)
        have kf5 := kf4.belowS hb5
        clear hg4 hb5 kf4 k04
        go_wp2
        go_ret
        exact ⟨_, _, _, rfl, by rw [HF.out]; exact hx3, kf5, by rw [HF.out]; exact hi4, by rw [HF.out]; exact ho4, HG4.out⟩
      · obtain rfl : n = 1 := by omega
        have HF := Lib.hid (foldI_in (size := size) (ins := ins) (os := os) hm)
        have hne := enough_in hm he
        clear he ih hm
        go_enter Tryd.func81, Tryd.ntmps81
        go_wp2_with fail
        refine HMM.out.mono ?_
        rintro e w2 ⟨rfl, hb2⟩
        have kf2 := kf1.belowS hb2
        have hbW2 := hbW1.trans (hb2.mono hbW1.size)
        have HG2 := Lib.hid (only_setCell (only_below (only_of_below hb0 (some fb)) hb2) (p := ⟨fb, 1, none⟩) (.inl rfl))
        have HN := Lib.hid (next_any fb 1 _ ins W w2 hne hbW2 hsi (kf2.cell 1) (kf2.frozen 1))
        clear kf1 k0 hb2 hb0 kf hne p0 p1
        go_wp2_with fail
        refine HN.out.mono ?_
        rintro e w3 ⟨x, lv', rfl, hx, hl', rfl⟩
        have hbW3 := hbW2.setCell (p := ⟨fb, 1, none⟩) hfb lv'
        go_wp2
        go_ret
        exact ⟨_, _, _, rfl, by rw [HF.out]; exact hx.below hbW3 (Nat.le_refl _), kf2.set_ 1 lv', by rw [HF.out]; exact hl', by rw [HF.out]; exact hso, HG2.out _⟩
    · have HMM := Lib.hid (HM.out w1 false (decide_eq_false hm).symm)
      have HF := Lib.hid (foldI_out (size := size) (ins := ins) (os := os) hm)
      have hne := enough_out hm he
      clear he ih hm
      go_enter Tryd.func81, Tryd.ntmps81
      go_wp2_with fail
      refine HMM.out.mono ?_
      rintro e w2 ⟨rfl, hb2⟩
      have kf2 := kf1.belowS hb2
      have hbW2 := hbW1.trans (hb2.mono hbW1.size)
      have HG2 := Lib.hid (only_setCell (only_below (only_of_below hb0 (some fb)) hb2) (p := ⟨fb, 2, none⟩) (.inl rfl))
      have HN := Lib.hid (next_any fb 2 _ os W w2 hne hbW2 hso (kf2.cell 2) (kf2.frozen 2))
      clear kf1 k0 hb2 hb0 kf hne p0 p1
      go_wp2_with fail
      refine HN.out.mono ?_
      rintro e w3 ⟨x, lv', rfl, hx, hl', rfl⟩
      have hbW3 := hbW2.setCell (p := ⟨fb, 2, none⟩) hfb lv'
      go_wp2
      go_ret
      exact ⟨_, _, _, rfl, by rw [HF.out]; exact hx.below hbW3 (Nat.le_refl _), kf2.set_ 2 lv', by rw [HF.out]; exact hsi, by rw [HF.out]; exact hl', HG2.out _⟩

end Go.Proofs.YtkabinicmdcbpaaDoor
