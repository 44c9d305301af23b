/- The walks of bits.Len and split. The walks of the spans' methods, and of Count. The walk of the law MerkleFew. The walks of pair and Root. -/
import Derived.Test.YtililoojjfcfgaaDoorLib2
import Derived.Test.YtililoojjfcfgaaDoorRows
import Derived.Test.YtililoojjfcfgaaDoorFewPM
import Derived.Lib.BitFns
import Derived.Lib.ItoaNum
import Derived.Test.YtililoojjfcfgaaDoorLen64
import Derived.Test.YtililoojjfcfgaaDoorFcA
import Derived.Deep.QuietTactic
import Derived.BigQuiet
import Derived.Outline
import Derived.Test.YtililoojjfcfgaaDoorClone
import Derived.Test.YtililoojjfcfgaaDoorShaE
import Derived.Deep.RegionHeld3
namespace Go.Proofs.YtililoojjfcfgaaDoor
open Go.RowKit
set_option linter.unusedVariables false

theorem len_any (x : Int) (w : World) (h0 : 0 ≤ x) (h1 : x ≤ 18446744073709551615) :
    Calls Tryd.prog 100 #[.int .u64 x] w fun e w' => e = .returned (.int .i64 (Lib.bitLen x.toNat)) ∧ w = w' := by
  go_enter Tryd.func100, Tryd.ntmps100
  go_wp2_with fail
  refine (len64_any x w h0 h1).mono ?_
  rintro e w1 ⟨rfl, rfl⟩
  go_wp2
  go_ret
  exact ⟨rfl, rfl⟩

theorem bitLen_log2 (x : Nat) (h : x ≠ 0) (h1 : x < 2 ^ 64) : Lib.bitLen x = x.log2 + 1 := by
  obtain ⟨a, b, c⟩ := Lib.bitLenAux_bounds 64 x h1 h
  have := (Nat.log2_eq_iff (n := x) (k := Lib.bitLenAux 64 x - 1) h).2 ⟨b, by rw [Nat.sub_add_cancel a]; exact c⟩
  unfold Lib.bitLen; omega

theorem half_int (n : Nat) (L : Nat) (h : L ≤ 61) (e : half n = 2 ^ L) : (half n : Int) = wrap64 (2 ^ L) := by
  have h1 : 2 ^ L ≤ 2 ^ 61 := Nat.pow_le_pow_right (by decide) h
  have h2 : ((2 ^ L : Nat) : Int) = (2 : Int) ^ L := by simp
  rw [e, ← h2]
  unfold wrap64
  generalize 2 ^ L = x at *
  omega

set_option maxHeartbeats 400000 in
theorem split_any (n : Nat) (w : World) (h0 : 2 ≤ n) (h1 : n ≤ 2305843009213693952) :
    Calls Tryd.prog 145 #[.int .i64 n] w fun e w' => e = .returned (.int .i64 (half n)) ∧ w = w' := by
  have hb := bitLen_log2 (n - 1) (by omega) (by omega)
  have hl : (n - 1).log2 ≤ 61 := by
    have := Nat.log2_self_le (n := n - 1) (by omega)
    have : 2 ^ (n - 1).log2 < 2 ^ 62 := by omega
    have := (Nat.pow_lt_pow_iff_right (by decide : 1 < 2)).1 this
    omega
  have HH := Lib.hid (half_int n (n - 1).log2 hl rfl)
  have HL := Lib.hid (len_any ((n : Int) - 1) w (by omega) (by omega))
  rw [show ((n : Int) - 1).toNat = n - 1 by omega, hb] at HL
  generalize (n - 1).log2 = L at *
  clear hb
  go_enter Tryd.func145, Tryd.ntmps145
  go_wp2_with fail
  refine HL.out.mono ?_
  rintro e w1 ⟨rfl, rfl⟩
  go_wp2
  go_ret
  exact ⟨ret_int HH.out.symm, rfl⟩

end Go.Proofs.YtililoojjfcfgaaDoor

namespace Go.Proofs.YtililoojjfcfgaaDoor
open Go.RowKit
set_option linter.unusedVariables false

theorem holds_any (f t a : Int) (n : Nat) (w : World) (ha : -1099511627776 ≤ a ∧ a ≤ 1099511627776) (hn : n ≤ 1099511627776) :
    Calls Tryd.prog 143 #[.agg #[.int .i64 f, .int .i64 t], .int .i64 a, .int .i64 n] w fun e w' => e = .returned (.bool (decide (f ≤ a ∧ a + n ≤ t))) ∧ Below w.heap.size w w' := by
  obtain ⟨b, hb⟩ : ∃ b, b = decide (f ≤ a ∧ a + n ≤ t) := ⟨_, rfl⟩
  rw [← hb]
  have HB := Lib.hid hb
  clear hb
  rcases (Decidable.em (f ≤ a)) with h0 | h0
  all_goals rcases (Decidable.em (a + n ≤ t)) with h1 | h1
  all_goals try (exfalso; omega)
  all_goals
    go_enter Tryd.func143, Tryd.ntmps143
    go_wp2
    go_ret
    refine ⟨ret_bool ?_, (Below.refl _ _).alloc (Nat.le_refl _) _⟩
    rw [HB.out]
    first | exact (decide_eq_true (by omega)).symm | exact (decide_eq_false (by omega)).symm

theorem meets_any (f t a : Int) (n : Nat) (w : World) (ha : -1099511627776 ≤ a ∧ a ≤ 1099511627776) (hn : n ≤ 1099511627776) :
    Calls Tryd.prog 144 #[.agg #[.int .i64 f, .int .i64 t], .int .i64 a, .int .i64 n] w fun e w' => e = .returned (.bool (decide (f < t ∧ f < a + n ∧ a < t))) ∧ Below w.heap.size w w' := by
  obtain ⟨b, hb⟩ : ∃ b, b = decide (f < t ∧ f < a + n ∧ a < t) := ⟨_, rfl⟩
  rw [← hb]
  have HB := Lib.hid hb
  clear hb
  rcases (Decidable.em (f < t)) with h0 | h0
  all_goals rcases (Decidable.em (f < a + n)) with h1 | h1
  all_goals rcases (Decidable.em (a < t)) with h2 | h2
  all_goals try (exfalso; omega)
  all_goals
    go_enter Tryd.func144, Tryd.ntmps144
    go_wp2
    go_ret
    refine ⟨ret_bool ?_, (Below.refl _ _).alloc (Nat.le_refl _) _⟩
    rw [HB.out]
    first | exact (decide_eq_true (by omega)).symm | exact (decide_eq_false (by omega)).symm

theorem inB_any (f t : Int) (n : Nat) (w : World) (hn : n ≤ 1099511627776) :
    Calls Tryd.prog 105 #[.agg #[.int .i64 f, .int .i64 t], .int .i64 n] w fun e w' => e = .returned (.bool (decide (0 ≤ f ∧ f ≤ t ∧ t ≤ n))) ∧ Below w.heap.size w w' := by
  obtain ⟨b, hb⟩ : ∃ b, b = decide (0 ≤ f ∧ f ≤ t ∧ t ≤ n) := ⟨_, rfl⟩
  rw [← hb]
  have HB := Lib.hid hb
  clear hb
  rcases (Decidable.em (0 ≤ f)) with h0 | h0
  all_goals rcases (Decidable.em (f ≤ t)) with h1 | h1
  all_goals rcases (Decidable.em (t ≤ n)) with h2 | h2
  all_goals try (exfalso; omega)
  all_goals
    go_enter Tryd.func105, Tryd.ntmps105
    go_wp2
    go_ret
    refine ⟨ret_bool ?_, (Below.refl _ _).alloc (Nat.le_refl _) _⟩
    rw [HB.out]
    first | exact (decide_eq_true (by omega)).symm | exact (decide_eq_false (by omega)).symm

theorem holds_meets (f t a : Int) (n : Nat) (w : World) (b : Bool) (hb : b = decide (f < t ∧ f < a + n ∧ a < t)) (ha : -1099511627776 ≤ a ∧ a ≤ 1099511627776) (hn : n ≤ 1099511627776) :
    Calls Tryd.prog 144 #[.agg #[.int .i64 f, .int .i64 t], .int .i64 a, .int .i64 n] w fun e w' => e = .returned (.bool b) ∧ Below w.heap.size w w' := by
  rw [hb]; exact meets_any f t a n w ha hn

/-- The closure that counts. -/
theorem count1_any (c : Nat) (x a b : Int) (w : World) (hc : w.heap[c]? = some (.cells #[.int .i64 x] 3 (0, 0))) (hx : -9223372036854775808 ≤ x ∧ x ≤ 9223372036854775807) :
    Calls Tryd.prog 158 #[.int .i64 a, .int .i64 b, .pointer (some ⟨c, 0, none⟩)] w fun e w' => e = .returned (.tuple #[]) ∧ w'.heap[c]? = some (.cells #[.int .i64 (wrap64 (x + 1))] 3 (0, 0)) ∧ w.grownBy w' (some c) := by
  have h1 := Go.cell_of_one hc
  have h2 := Go.free_of_one hc
  go_enter Tryd.func158, Tryd.ntmps158
  go_wp2
  go_end0
  exact ⟨rfl, Go.one_setCell hc, only_setCell (World.grownBy.refl _ _) (.inl rfl) _⟩

set_option maxHeartbeats 2000000 in
/-- The greatest parts that a span does not meet, seen by a closure that keeps I. -/
theorem outsideC_any (c : Nat) (I : World → List (Int × Nat) → Prop) (hI : ∀ w w' d, I w d → Below w.heap.size w w' → I w' d) (lo hi : Int) (hlo : -1073741824 ≤ lo) (hhi : hi ≤ 1073741824)
    (hK : ∀ (a : Int) (n : Nat) (d : List (Int × Nat)) (w : World), lo ≤ a → a + n ≤ hi → 0 < n → I w d → Calls Tryd.prog 158 #[.int .i64 a, .int .i64 n, .pointer (some ⟨c, 0, none⟩)] w fun e w' => e = .returned (.tuple #[]) ∧ I w' (d ++ [(a, n)]) ∧ (∀ g cs, Blk w g 144 cs → Blk w' g 144 cs)) (f t : Int) :
    ∀ (m n : Nat), n ≤ m → ∀ (a : Int) (d : List (Int × Nat)) (w : World), lo ≤ a → a + n ≤ hi → I w d →
    Calls Tryd.prog 106 #[.agg #[.int .i64 f, .int .i64 t], .int .i64 a, .int .i64 n, .func (.func 158) #[] #[.pointer (some ⟨c, 0, none⟩)]] w fun e w' =>
      e = .returned (.tuple #[]) ∧ I w' (d ++ outs f t a n) ∧ (∀ g cs, Blk w g 144 cs → Blk w' g 144 cs) := by
  intro m
  induction m with
  | zero =>
    intro n hn a d w ha1 ha2 hi0
    obtain rfl : n = 0 := by omega
    have HE := Lib.hid (show d ++ outs f t a 0 = d by rw [outs_none (.inl rfl), List.append_nil])
    have hi1 := hI _ _ _ hi0 ((Below.refl _ _).alloc (Nat.le_refl _) (.cells #[.int .i64 f, .int .i64 t] 144))
    go_enter Tryd.func106, Tryd.ntmps106
    go_wp2
    go_end0
    exact ⟨rfl, by rw [HE.out]; exact hi1, fun g cs h => h.alloc _⟩
  | succ m ih =>
    intro n hn a d w ha1 ha2 hi0
    by_cases h0 : n = 0
    · subst h0
      exact ih 0 (by omega) a d w ha1 ha2 hi0
    · have hnI : ¬ (n : Int) = 0 := by omega
      have hb0 : Below w.heap.size w (w.alloc (.cells #[.int .i64 f, .int .i64 t] 144)) := (Below.refl _ _).alloc (Nat.le_refl _) _
      have hi1 := hI _ _ _ hi0 hb0
      have hk0 := Blk.new w 144 #[.int .i64 f, .int .i64 t]
      have HH := Lib.hid (fun w1 => holds_any f t a n w1 (by omega) (by omega))
      have HA := Lib.hid (fun g cs (h : Blk w g 144 cs) => h.alloc (.cells #[.int .i64 f, .int .i64 t] 144))
      clear hi0 hb0
      by_cases hh : f ≤ a ∧ a + n ≤ t
      · simp only [show decide (f ≤ a ∧ a + n ≤ t) = true from decide_eq_true hh] at HH
        have HE := Lib.hid (show d ++ outs f t a n = d by rw [outs_none (.inr hh), List.append_nil])
        clear hh h0 ih
        go_enter Tryd.func106, Tryd.ntmps106
        go_wp2_with fail
        generalize w.alloc (.cells #[.int .i64 f, .int .i64 t] 144) = w1 at *
        refine (HH.out w1).mono ?_
        rintro e w2 ⟨rfl, hb2⟩
        have hi2 := hI _ _ _ hi1 hb2
        go_wp2
        go_end0
        exact ⟨rfl, by rw [HE.out]; exact hi2, fun g cs h => (HA.out g cs h).belowS hb2⟩
      · simp only [show decide (f ≤ a ∧ a + n ≤ t) = false from decide_eq_false hh] at HH
        by_cases hm : f < t ∧ f < a + n ∧ a < t
        · obtain ⟨hn2, he⟩ := outs_two (by omega) hm
          have HE := Lib.hid he
          have hx1 := half_lt n hn2
          have hx2 := half_pos n
          have HM := Lib.hid (fun w2 => holds_meets f t a n w2 true (decide_eq_true hm).symm (by omega) (by omega))
          have HS := Lib.hid (fun w2 => split_any n w2 hn2 (by omega))
          have HC1 := Lib.hid (fun d w2 => ih (half n) (by omega) a d w2 ha1 (by omega))
          have HC2 := Lib.hid (fun d w2 => ih (n - half n) (by omega) (a + half n) d w2 (by omega) (by omega))
          rw [show ((n - half n : Nat) : Int) = (n : Int) - (half n : Int) by omega] at HC2
          have hi64 : (half n : Int) ≤ 1099511627776 := by omega
          clear hm hh h0 ih he hK
          generalize half n = k at *
          go_enter Tryd.func106, Tryd.ntmps106
          go_wp2_with fail
          generalize w.alloc (.cells #[.int .i64 f, .int .i64 t] 144) = w1 at *
          refine (HH.out w1).mono ?_
          rintro e w2 ⟨rfl, hb2⟩
          have hi2 := hI _ _ _ hi1 hb2
          have hk2 := hk0.belowS hb2
          have c20 := hk2.cell 0
          have c21 := hk2.cell 1
          clear hi1 hk0
          go_wp2_with fail
          refine (HM.out w2).mono ?_
          rintro e w3 ⟨rfl, hb3⟩
          have hi3 := hI _ _ _ hi2 hb3
          have hk3 := hk2.belowS hb3
          have c30 := hk3.cell 0
          have c31 := hk3.cell 1
          clear hi2 hk2 c20 c21
          go_wp2_with fail
          refine (HS.out w3).mono ?_
          rintro e w4 ⟨rfl, rfl⟩
          go_wp2_with fail
          refine (HC1.out d w3 hi3).mono ?_
          rintro e w4 ⟨rfl, hi4, hkp4⟩
          have hk4 := hkp4 _ _ hk3
          have c40 := hk4.cell 0
          have c41 := hk4.cell 1
          have HK4 := Lib.hid hkp4
          clear hkp4 hk3 c30 c31 hi3
          go_wp2_with fail
          refine (HC2.out _ w4 hi4).mono ?_
          rintro e w5 ⟨rfl, hi5, hkp5⟩
          have HK5 := Lib.hid hkp5
          clear hkp5 hk4 c40 c41 hi4
          go_wp2
          go_end0
          exact ⟨rfl, by rw [HE.out, ← List.append_assoc]; exact hi5, fun g cs h => HK5.out g cs (HK4.out g cs (((HA.out g cs h).belowS hb2).belowS hb3))⟩
        · have HE := Lib.hid (show d ++ outs f t a n = d ++ [(a, n)] by rw [outs_one (by omega) hm])
          have HM := Lib.hid (fun w2 => holds_meets f t a n w2 false (decide_eq_false hm).symm (by omega) (by omega))
          have HK := Lib.hid (fun w2 (h : I w2 d) => hK a n d w2 ha1 ha2 (by omega) h)
          clear hm hh h0 ih hK
          go_enter Tryd.func106, Tryd.ntmps106
          go_wp2_with fail
          generalize w.alloc (.cells #[.int .i64 f, .int .i64 t] 144) = w1 at *
          refine (HH.out w1).mono ?_
          rintro e w2 ⟨rfl, hb2⟩
          have hi2 := hI _ _ _ hi1 hb2
          have hk2 := hk0.belowS hb2
          have c20 := hk2.cell 0
          have c21 := hk2.cell 1
          clear hi1 hk0
          go_wp2_with fail
          refine (HM.out w2).mono ?_
          rintro e w3 ⟨rfl, hb3⟩
          have hi3 := hI _ _ _ hi2 hb3
          clear hi2 hk2 c20 c21
          go_wp2_with fail
          refine (HK.out w3 hi3).mono ?_
          rintro e w4 ⟨rfl, hi4, hkp⟩
          have HKP := Lib.hid hkp
          clear hkp
          go_wp2
          go_end0
          exact ⟨rfl, by rw [HE.out]; exact hi4, fun g cs h => HKP.out g cs (((HA.out g cs h).belowS hb2).belowS hb3)⟩

theorem outs_le (f t : Int) : ∀ (m n : Nat) (a : Int), n ≤ m → (outs f t a n).length ≤ n := by
  intro m
  induction m with
  | zero => intro n a h; rw [outs_none (.inl (by omega))]; simp
  | succ m ih =>
    intro n a h
    by_cases h0 : n = 0 ∨ (f ≤ a ∧ a + n ≤ t)
    · rw [outs_none h0]; simp
    · by_cases h1 : f < t ∧ f < a + n ∧ a < t
      · obtain ⟨h2, he⟩ := outs_two h0 h1
        have k3 := half_lt n h2
        have k4 := half_pos n
        rw [he, List.length_append]
        have := ih (half n) a (by omega)
        have := ih (n - half n) (a + half n) (by omega)
        omega
      · rw [outs_one h0 h1]; simp; omega

set_option maxHeartbeats 1000000 in
theorem count_any (n : Nat) (f t : Int) (w : World) (hn : n ≤ 1048576) (hin : 0 ≤ f ∧ f ≤ t ∧ t ≤ n) :
    Calls Tryd.prog 148 #[.int .i64 n, .int .i64 f, .int .i64 t] w fun e w' => e = .returned (.int .i64 (outs f t 0 n).length) ∧ Below w.heap.size w w' := by
  have HI := Lib.hid (fun w1 => inB_any f t n w1 (by omega))
  rw [show decide (0 ≤ f ∧ f ≤ t ∧ t ≤ n) = true from decide_eq_true hin] at HI
  have HL := Lib.hid (show (outs f t 0 n).length ≤ 1048576 from Nat.le_trans (outs_le f t n n 0 (Nat.le_refl _)) hn)
  have hnI : (n : Int) ≤ 1048576 := by omega
  clear hin hn
  go_enter Tryd.func148, Tryd.ntmps148
  go_wp2_with fail
  have hb0 : Below w.heap.size w ((w.alloc (.cells #[.int .i64 f, .int .i64 t] 144)).alloc (.cells #[.int .i64 0] 3)) := ((Below.refl _ _).alloc (Nat.le_refl _) _).alloc (by simp) _
  have hk0 : Blk ((w.alloc (.cells #[.int .i64 f, .int .i64 t] 144)).alloc (.cells #[.int .i64 0] 3)) w.heap.size 144 #[.int .i64 f, .int .i64 t] := (Blk.new w _ _).alloc _
  have hc0 : Blk ((w.alloc (.cells #[.int .i64 f, .int .i64 t] 144)).alloc (.cells #[.int .i64 0] 3)) (w.heap.size + 1) 3 #[.int .i64 0] := by
    have := Blk.new (w.alloc (.cells #[.int .i64 f, .int .i64 t] 144)) 3 #[.int .i64 0]
    simpa using this
  generalize ((w.alloc (.cells #[.int .i64 f, .int .i64 t] 144)).alloc (.cells #[.int .i64 0] 3)) = w1 at *
  refine (HI.out w1).mono ?_
  rintro e w2 ⟨rfl, hb2⟩
  have hk2 := hk0.belowS hb2
  have hc2 := hc0.belowS hb2
  have hb12 := below_trans2 hb0 hb2
  have c20 := hk2.cell 0
  have c21 := hk2.cell 1
  clear hb0 hb2 hk0 hc0
  go_wp2_with fail
  refine (outsideC_any (w.heap.size + 1) (fun v d => Below w.heap.size w v ∧ Blk v (w.heap.size + 1) 3 #[.int .i64 (wrap64 d.length)]) ?cI 0 n (by omega) (by omega) ?cK f t n n (Nat.le_refl _) 0 [] w2 (Int.le_refl _) (by omega) ⟨hb12, by rw [show wrap64 (([] : List (Int × Nat)).length : Nat) = 0 by simp [wrap64]]; exact hc2⟩).mono ?_
  case cI => exact fun v v' d ⟨h1, h2⟩ hb => ⟨below_trans2 h1 hb, h2.belowS hb⟩
  case cK =>
    intro a n d v _ _ _ ⟨h1, h2⟩
    refine (count1_any (w.heap.size + 1) (wrap64 d.length) a n v h2 (by unfold wrap64; omega)).mono ?_
    rintro e v' ⟨rfl, h3, h4⟩
    refine ⟨rfl, ⟨below_of_only h1 h4 (by omega) h1.size, ?_⟩, fun g cs h => h.grown h4 (fun hg => ?_)⟩
    · rw [show wrap64 ((d ++ [(a, n)]).length : Nat) = wrap64 (wrap64 d.length + 1) by rw [List.length_append]; simp only [List.length_singleton]; unfold wrap64; omega]
      exact h3
    · exact Blk.ne_ h h2 (by decide) (by injection hg)
  rintro e w3 ⟨rfl, ⟨hb3, hc3⟩, _⟩
  rw [List.nil_append, show wrap64 ((outs f t 0 n).length : Nat) = (outs f t 0 n).length by have := HL.out; unfold wrap64; omega] at hc3
  have c30 := hc3.cell 0
  go_wp2
  go_ret
  exact ⟨rfl, hb3⟩

end Go.Proofs.YtililoojjfcfgaaDoor

namespace Go.Proofs.YtililoojjfcfgaaDoor
open Go.RowKit
set_option linter.unusedVariables false

set_option maxHeartbeats 400000 in
/-- The root of one digest is the digest. -/
theorem root1_any (size : Int) (v : Value) (bs : List Int) (w : World) (hn : bs.length ≤ 140737488351232) (h : Sls w v [bs]) :
    Calls Tryd.prog 108 #[.int .i64 size, v] w fun e w' => ∃ x, e = .returned x ∧ Sl w' x (bs.map (Value.int .u8)) ∧ Below w.heap.size w w' := by
  obtain ⟨a, cap, rfl, hc, hm⟩ := h.shape
  obtain ⟨b, off, rfl, hb, u, hu, hs⟩ := h.at (k := 0) (by simp)
  simp only [List.getD_cons_zero, List.length_cons, List.length_nil, Nat.zero_add, Nat.add_zero] at *
  have HC := Lib.hid (sclone_any u bs w hn hs)
  clear hs h hn
  go_enter Tryd.func108, Tryd.ntmps108
  go_wp2_with fail
  refine HC.out.mono ?_
  rintro e w1 ⟨x, rfl, hx, hb1⟩
  go_wp2
  go_ret
  exact ⟨_, rfl, hx, hb1⟩

theorem outs545 : (outs 4 5 0 5).length = 1 := by decide +kernel


theorem bits_step {N b k : Nat} (h1 : N < 2 ^ b * (k + 1)) : N < 2 ^ (b + 1) * (k / 2 + 1) := by
  have h2 : 2 ^ b * (k + 1) ≤ 2 ^ b * (2 * (k / 2 + 1)) := Nat.mul_le_mul_left _ (by omega)
  rw [Nat.pow_succ, Nat.mul_assoc]
  omega
theorem bits_le {N b k : Nat} (hk : 0 < k) (h : 2 ^ b * k ≤ N) (hN : N ≤ 1048576) : b ≤ 20 := by
  have h1 : 2 ^ b * 1 ≤ 2 ^ b * k := Nat.mul_le_mul_left _ hk
  have h2 : 2 ^ b ≤ 2 ^ 20 := by omega
  exact (Nat.pow_le_pow_iff_right (by decide : 1 < 2)).1 h2
theorem bits_low {N b k : Nat} (h : 2 ^ b * k ≤ N) : 2 ^ (b + 1) * (k / 2) ≤ N := by
  have h2 : 2 ^ b * (2 * (k / 2)) ≤ 2 ^ b * k := Nat.mul_le_mul_left _ (by omega)
  rw [Nat.pow_succ, Nat.mul_assoc]
  omega


end Go.Proofs.YtililoojjfcfgaaDoor

namespace Go.Proofs.YtililoojjfcfgaaDoor
open Go.RowKit
set_option linter.unusedVariables false

theorem Sls.drop {w : World} {a : Option Addr} {n cap : Nat} {pss : List (List Int)} (h : Sls w (.slice a n cap) pss) (k : Nat) (hk : k ≤ pss.length) :
    Sls w (.slice (if cap = k then a else Option.map (fun x => ({ block := x.block, off := x.off + k } : Addr)) a) (n - k) (cap - k)) (pss.drop k) := by
  obtain ⟨vs, h1, h2, h3⟩ := h
  have hn : n = vs.length := h1.len.1
  refine ⟨vs.drop k, h1.drop k (by omega), by simp [h2], fun i u bs hu hp => ?_⟩
  rw [List.getElem?_drop] at hu hp
  exact h3 _ u bs hu hp

/-- The root over digests. -/
def rootI (size : Int) (l : List (List Int)) : List Int :=
  if l.length = 0 then hashT size 0 []
  else if h : 2 ≤ l.length then hashT size 4 [rootI size (l.take (half l.length)), rootI size (l.drop (half l.length))]
  else l.getD 0 []
termination_by l.length
decreasing_by
  · have := half_lt l.length h; rw [List.length_take]; omega
  · have := half_pos l.length; rw [List.length_drop]; omega

theorem rootI_zero (size : Int) : rootI size [] = hashT size 0 [] := by rw [rootI]; simp
theorem rootI_one (size : Int) (p : List Int) : rootI size [p] = p := by rw [rootI]; simp
theorem rootI_two (size : Int) (l : List (List Int)) (h : 2 ≤ l.length) : rootI size l = hashT size 4 [rootI size (l.take (half l.length)), rootI size (l.drop (half l.length))] := by
  rw [rootI, if_neg (by omega), dif_pos h]
theorem rootI_isB (size : Int) (l : List (List Int)) (h : ∀ p ∈ l, IsB p) : IsB (rootI size l) := by
  by_cases h2 : 2 ≤ l.length
  · rw [rootI_two size l h2]; exact hashT_isB' _ _ _
  · match l, h, h2 with
    | [], _, _ => rw [rootI_zero]; exact hashT_isB' _ _ _
    | [p], h, _ => rw [rootI_one]; exact h p (by simp)
    | _ :: _ :: _, _, h2 => simp at h2

set_option maxHeartbeats 400000 in
theorem pair_any (size : Int) (v1 v2 : Value) (b1 b2 : List Int) (w : World) (hB1 : IsB b1) (hB2 : IsB b2) (h1 : Sl w v1 (b1.map (Value.int .u8))) (h2 : Sl w v2 (b2.map (Value.int .u8))) (ht : Tabs w) :
    Calls Tryd.prog 146 #[.int .i64 size, v1, v2] w fun e w' => ∃ x, e = .returned x ∧ Sl w' x ((hashT size 4 [b1, b2]).map (Value.int .u8)) ∧ Below w.heap.size w w' := by
  obtain ⟨a1, l1, c1, rfl⟩ := h1.val
  obtain ⟨a2, l2, c2, rfl⟩ := h2.val
  have hL := Sls.litA _ 22 (show SlAll w [.slice a1 l1 c1, .slice a2 l2 c2] [b1, b2] from ⟨h1, h2, trivial⟩) (by simp [maxLen])
  have hbA : Below w.heap.size w (w.alloc (.cells #[.slice a1 l1 c1, .slice a2 l2 c2] 22)) := (Below.refl _ _).alloc (Nat.le_refl _) _
  have HH := Lib.hid (hash_any size 4 _ _ _ (by simp) (by decide) (by decide) hL (fun p hp => by
    simp only [List.mem_cons, List.not_mem_nil, or_false] at hp
    rcases hp with rfl | rfl
    · exact hB1
    · exact hB2) (ht.below hbA))
  clear hL h1 h2 ht
  go_enter Tryd.func146, Tryd.ntmps146
  go_wp2_with fail
  refine HH.out.mono ?_
  rintro e w5 ⟨y, rfl, hy, hb5⟩
  have hbr := hbA.trans (hb5.mono hbA.size)
  go_wp2
  go_ret
  exact ⟨_, rfl, hy, hbr⟩

set_option maxRecDepth 100000 in
set_option maxHeartbeats 1000000 in
theorem root_any (size : Int) : ∀ (m : Nat) (l : List (List Int)), l.length ≤ m → ∀ (v : Value) (w : World), l.length ≤ 140737488351232 → (∀ p ∈ l, IsB p) → (∀ p ∈ l, p.length ≤ 140737488351232) → Sls w v l → Tabs w →
    Calls Tryd.prog 108 #[.int .i64 size, v] w fun e w' => ∃ x, e = .returned x ∧ Sl w' x ((rootI size l).map (Value.int .u8)) ∧ Below w.heap.size w w' := by
  intro m
  induction m with
  | zero =>
    intro l hl v w hlen hB hP hs ht
    obtain rfl : l = [] := List.length_eq_zero_iff.1 (by omega)
    obtain ⟨a, c, rfl, _, _⟩ := hs.shape
    have HH := Lib.hid (hash_any size 0 (.slice none 0 0) [] w (by simp) (by decide) (by decide) ⟨[], Sl.nil _, rfl, fun i u bs hu _ => by simp at hu⟩ (by simp) ht)
    rw [rootI_zero]
    clear hs ht
    go_enter Tryd.func108, Tryd.ntmps108
    go_wp2_with fail
    refine HH.out.mono ?_
    rintro e w5 ⟨y, rfl, hy, hb5⟩
    go_wp2
    go_ret
    exact ⟨_, rfl, hy, hb5⟩
  | succ m ih =>
    intro l hl v w hlen hB hP hs ht
    by_cases h2 : 2 ≤ l.length
    · have hk1 := half_lt l.length h2
      have hk2 := half_pos l.length
      have HR := Lib.hid (rootI_two size l h2)
      obtain ⟨a, c, rfl, hc, hm⟩ := hs.shape
      obtain ⟨b, off, rfl, hbl, _⟩ := hs.at (k := 0) (by omega)
      have hst := hs.take (half l.length) (by omega)
      have hsd := hs.drop (half l.length) (by omega)
      have hne : ¬ c = half l.length := by omega
      rw [if_neg hne, Option.map_some] at hsd
      have HT := Lib.hid (fun w1 (h : Below w.heap.size w w1) => ih (l.take (half l.length)) (by rw [List.length_take]; omega) _ w1 (by rw [List.length_take]; omega) (fun p hp => hB p (List.mem_of_mem_take hp)) (fun p hp => hP p (List.mem_of_mem_take hp)) (hst.below h (Nat.le_refl _)) (ht.below h))
      have HD := Lib.hid (fun w1 (h : Below w.heap.size w w1) => ih (l.drop (half l.length)) (by rw [List.length_drop]; omega) _ w1 (by rw [List.length_drop]; omega) (fun p hp => hB p (List.mem_of_mem_drop hp)) (fun p hp => hP p (List.mem_of_mem_drop hp)) (hsd.below h (Nat.le_refl _)) (ht.below h))
      have HTt := Lib.hid (fun w1 (h : Below w.heap.size w w1) => ht.below h)
      have HB1 := Lib.hid (rootI_isB size (l.take (half l.length)) (fun p hp => hB p (List.mem_of_mem_take hp)))
      have HB2 := Lib.hid (rootI_isB size (l.drop (half l.length)) (fun p hp => hB p (List.mem_of_mem_drop hp)))
      have HSP := Lib.hid (split_any l.length w h2 (by omega))
      generalize rootI size (l.take (half l.length)) = R1 at *
      generalize rootI size (l.drop (half l.length)) = R2 at *
      generalize half l.length = k at *
      have hkI : (k : Int) ≤ (l.length : Int) := by omega
      have hkI0 : (0 : Int) ≤ (k : Int) := by omega
      have hkc : k ≤ c := by omega
      have hkcI : (k : Int) ≤ (c : Int) := by omega
      have hn0 : ¬ (l.length : Int) = 0 := by omega
      have hn1 : ¬ (l.length : Int) = 1 := by omega
      clear hst hsd ih hB hP hs ht
      go_enter Tryd.func108, Tryd.ntmps108
      go_wp2_with fail
      refine HSP.out.mono ?_
      rintro e w1 ⟨rfl, rfl⟩
      go_wp2
      go_region_held3 (fun w' => True) (exact trivial)
        (first | (go_at_call 146; refine (pair_any size x1 x2 R1 R2 w2 HB1.out HB2.out hx1 hx2 (HTt.out _ hb2)).mono ?_; rintro e w3 ⟨x3, rfl, hx3, hb3⟩) | (go_at_call 108; refine (HD.out _ hb1).mono ?_; rintro e w2 ⟨x2, rfl, hx2, hb2⟩; have hx1 := hx1.below hb2 (Nat.le_refl _); have hb2 : Below w.heap.size w w2 := below_trans2 hb1 hb2) | (go_at_call 108; refine (HT.out _ (by first | exact Below.refl _ _ | exact (Below.refl _ _).drew)).mono ?_; rintro e w1 ⟨x1, rfl, hx1, hb1⟩; have hb1 : Below w.heap.size w w1 := ⟨hb1.os, hb1.tape, hb1.output, hb1.size, hb1.block⟩))
      go_wp2
      go_ret
      exact ⟨_, rfl, by rw [HR.out]; exact hx3, below_trans2 hb2 hb3⟩
    · by_cases h1 : l.length = 1
      · obtain ⟨p, rfl⟩ := List.length_eq_one_iff.1 h1
        rw [rootI_one]
        exact root1_any size v p w (hP p (by simp)) hs
      · obtain rfl : l = [] := List.length_eq_zero_iff.1 (by omega)
        exact ih [] (by simp) v w hlen hB hP hs ht

end Go.Proofs.YtililoojjfcfgaaDoor
