/- The walks of the spans' methods, and of Count. -/
import Derived.Test.YtkabinicmdcbpaaDoorMerA
import Derived.Test.YtkabinicmdcbpaaDoorBlk
import Derived.Deep.QuietTactic
import Derived.BigQuiet
import Derived.Outline
namespace Go.Proofs.YtkabinicmdcbpaaDoor
open Go.RowKit
set_option linter.unusedVariables false

theorem holds_any (f t a : Int) (n : Nat) (w : World) (ha : -1099511627776 ≤ a ∧ a ≤ 1099511627776) (hn : n ≤ 1099511627776) :
    Calls Tryd.prog 104 #[.agg #[.int .i64 f, .int .i64 t], .int .i64 a, .int .i64 n] w fun e w' => e = .returned (.bool (decide (f ≤ a ∧ a + n ≤ t))) ∧ Below w.heap.size w w' := by
  obtain ⟨b, hb⟩ : ∃ b, b = decide (f ≤ a ∧ a + n ≤ t) := ⟨_, rfl⟩
  rw [← hb]
  have HB := Lib.hid hb
  clear hb
  rcases (Decidable.em (f ≤ a)) with h0 | h0
  all_goals rcases (Decidable.em (a + n ≤ t)) with h1 | h1
  all_goals try (exfalso; omega)
  all_goals
    go_enter Tryd.func104, Tryd.ntmps104
    go_wp2
    go_ret
    refine ⟨ret_bool ?_, (Below.refl _ _).alloc (Nat.le_refl _) _⟩
    rw [HB.out]
    first | exact (decide_eq_true (by omega)).symm | exact (decide_eq_false (by omega)).symm

theorem meets_any (f t a : Int) (n : Nat) (w : World) (ha : -1099511627776 ≤ a ∧ a ≤ 1099511627776) (hn : n ≤ 1099511627776) :
    Calls Tryd.prog 105 #[.agg #[.int .i64 f, .int .i64 t], .int .i64 a, .int .i64 n] w fun e w' => e = .returned (.bool (decide (f < t ∧ f < a + n ∧ a < t))) ∧ Below w.heap.size w w' := by
  obtain ⟨b, hb⟩ : ∃ b, b = decide (f < t ∧ f < a + n ∧ a < t) := ⟨_, rfl⟩
  rw [← hb]
  have HB := Lib.hid hb
  clear hb
  rcases (Decidable.em (f < t)) with h0 | h0
  all_goals rcases (Decidable.em (f < a + n)) with h1 | h1
  all_goals rcases (Decidable.em (a < t)) with h2 | h2
  all_goals try (exfalso; omega)
  all_goals
    go_enter Tryd.func105, Tryd.ntmps105
    go_wp2
    go_ret
    refine ⟨ret_bool ?_, (Below.refl _ _).alloc (Nat.le_refl _) _⟩
    rw [HB.out]
    first | exact (decide_eq_true (by omega)).symm | exact (decide_eq_false (by omega)).symm

theorem inB_any (f t : Int) (n : Nat) (w : World) (hn : n ≤ 1099511627776) :
    Calls Tryd.prog 73 #[.agg #[.int .i64 f, .int .i64 t], .int .i64 n] w fun e w' => e = .returned (.bool (decide (0 ≤ f ∧ f ≤ t ∧ t ≤ n))) ∧ Below w.heap.size w w' := by
  obtain ⟨b, hb⟩ : ∃ b, b = decide (0 ≤ f ∧ f ≤ t ∧ t ≤ n) := ⟨_, rfl⟩
  rw [← hb]
  have HB := Lib.hid hb
  clear hb
  rcases (Decidable.em (0 ≤ f)) with h0 | h0
  all_goals rcases (Decidable.em (f ≤ t)) with h1 | h1
  all_goals rcases (Decidable.em (t ≤ n)) with h2 | h2
  all_goals try (exfalso; omega)
  all_goals
    go_enter Tryd.func73, Tryd.ntmps73
    go_wp2
    go_ret
    refine ⟨ret_bool ?_, (Below.refl _ _).alloc (Nat.le_refl _) _⟩
    rw [HB.out]
    first | exact (decide_eq_true (by omega)).symm | exact (decide_eq_false (by omega)).symm

theorem holds_meets (f t a : Int) (n : Nat) (w : World) (b : Bool) (hb : b = decide (f < t ∧ f < a + n ∧ a < t)) (ha : -1099511627776 ≤ a ∧ a ≤ 1099511627776) (hn : n ≤ 1099511627776) :
    Calls Tryd.prog 105 #[.agg #[.int .i64 f, .int .i64 t], .int .i64 a, .int .i64 n] w fun e w' => e = .returned (.bool b) ∧ Below w.heap.size w w' := by
  rw [hb]; exact meets_any f t a n w ha hn

/-- The closure that counts. -/
theorem count1_any (c : Nat) (x a b : Int) (w : World) (hc : w.heap[c]? = some (.cells #[.int .i64 x] 3 (0, 0))) (hx : -9223372036854775808 ≤ x ∧ x ≤ 9223372036854775807) :
    Calls Tryd.prog 75 #[.int .i64 a, .int .i64 b, .pointer (some ⟨c, 0, none⟩)] w fun e w' => e = .returned (.tuple #[]) ∧ w'.heap[c]? = some (.cells #[.int .i64 (wrap64 (x + 1))] 3 (0, 0)) ∧ w.grownBy w' (some c) := by
  have h1 := Go.cell_of_one hc
  have h2 := Go.free_of_one hc
  go_enter Tryd.func75, Tryd.ntmps75
  go_wp2
  go_end0
  exact ⟨rfl, Go.one_setCell hc, only_setCell (World.grownBy.refl _ _) (.inl rfl) _⟩

set_option maxHeartbeats 2000000 in
/-- The greatest parts that a span does not meet, seen by a closure that keeps I. -/
theorem outsideC_any (c : Nat) (I : World → List (Int × Nat) → Prop) (hI : ∀ w w' d, I w d → Below w.heap.size w w' → I w' d) (lo hi : Int) (hlo : -1073741824 ≤ lo) (hhi : hi ≤ 1073741824)
    (hK : ∀ (a : Int) (n : Nat) (d : List (Int × Nat)) (w : World), lo ≤ a → a + n ≤ hi → 0 < n → I w d → Calls Tryd.prog 75 #[.int .i64 a, .int .i64 n, .pointer (some ⟨c, 0, none⟩)] w fun e w' => e = .returned (.tuple #[]) ∧ I w' (d ++ [(a, n)]) ∧ (∀ g cs, Blk w g 106 cs → Blk w' g 106 cs)) (f t : Int) :
    ∀ (m n : Nat), n ≤ m → ∀ (a : Int) (d : List (Int × Nat)) (w : World), lo ≤ a → a + n ≤ hi → I w d →
    Calls Tryd.prog 74 #[.agg #[.int .i64 f, .int .i64 t], .int .i64 a, .int .i64 n, .func (.func 75) #[] #[.pointer (some ⟨c, 0, none⟩)]] w fun e w' =>
      e = .returned (.tuple #[]) ∧ I w' (d ++ outs f t a n) ∧ (∀ g cs, Blk w g 106 cs → Blk w' g 106 cs) := by
  intro m
  induction m with
  | zero =>
    intro n hn a d w ha1 ha2 hi0
    obtain rfl : n = 0 := by omega
    have HE := Lib.hid (show d ++ outs f t a 0 = d by rw [outs_none (.inl rfl), List.append_nil])
    have hi1 := hI _ _ _ hi0 ((Below.refl _ _).alloc (Nat.le_refl _) (.cells #[.int .i64 f, .int .i64 t] 106))
    go_enter Tryd.func74, Tryd.ntmps74
    go_wp2
    go_end0
    exact ⟨rfl, by rw [HE.out]; exact hi1, fun g cs h => h.alloc _⟩
  | succ m ih =>
    intro n hn a d w ha1 ha2 hi0
    by_cases h0 : n = 0
    · subst h0
      exact ih 0 (by omega) a d w ha1 ha2 hi0
    · have hnI : ¬ (n : Int) = 0 := by omega
      have hb0 : Below w.heap.size w (w.alloc (.cells #[.int .i64 f, .int .i64 t] 106)) := (Below.refl _ _).alloc (Nat.le_refl _) _
      have hi1 := hI _ _ _ hi0 hb0
      have hk0 := Blk.new w 106 #[.int .i64 f, .int .i64 t]
      have HH := Lib.hid (fun w1 => holds_any f t a n w1 (by omega) (by omega))
      have HA := Lib.hid (fun g cs (h : Blk w g 106 cs) => h.alloc (.cells #[.int .i64 f, .int .i64 t] 106))
      clear hi0 hb0
      by_cases hh : f ≤ a ∧ a + n ≤ t
      · simp only [show decide (f ≤ a ∧ a + n ≤ t) = true from decide_eq_true hh] at HH
        have HE := Lib.hid (show d ++ outs f t a n = d by rw [outs_none (.inr hh), List.append_nil])
        clear hh h0 ih
        go_enter Tryd.func74, Tryd.ntmps74
        go_wp2_with fail
        generalize w.alloc (.cells #[.int .i64 f, .int .i64 t] 106) = w1 at *
        refine (HH.out w1).mono ?_
        rintro e w2 ⟨rfl, hb2⟩
        have hi2 := hI _ _ _ hi1 hb2
        go_wp2
        go_end0
        exact ⟨rfl, by rw [HE.out]; exact hi2, fun g cs h => (HA.out g cs h).belowS hb2⟩
      · simp only [show decide (f ≤ a ∧ a + n ≤ t) = false from decide_eq_false hh] at HH
        by_cases hm : f < t ∧ f < a + n ∧ a < t
        · obtain ⟨hn2, he⟩ := outs_two (by omega) hm
          have HE := Lib.hid he
          have hx1 := half_lt n hn2
          have hx2 := half_pos n
          have HM := Lib.hid (fun w2 => holds_meets f t a n w2 true (decide_eq_true hm).symm (by omega) (by omega))
          have HS := Lib.hid (fun w2 => split_any n w2 hn2 (by omega))
          have HC1 := Lib.hid (fun d w2 => ih (half n) (by omega) a d w2 ha1 (by omega))
          have HC2 := Lib.hid (fun d w2 => ih (n - half n) (by omega) (a + half n) d w2 (by omega) (by omega))
          rw [show ((n - half n : Nat) : Int) = (n : Int) - (half n : Int) by omega] at HC2
          have hi64 : (half n : Int) ≤ 1099511627776 := by omega
          clear hm hh h0 ih he hK
          generalize half n = k at *
          go_enter Tryd.func74, Tryd.ntmps74
          go_wp2_with fail
          generalize w.alloc (.cells #[.int .i64 f, .int .i64 t] 106) = w1 at *
          refine (HH.out w1).mono ?_
          rintro e w2 ⟨rfl, hb2⟩
          have hi2 := hI _ _ _ hi1 hb2
          have hk2 := hk0.belowS hb2
          have c20 := hk2.cell 0
          have c21 := hk2.cell 1
          clear hi1 hk0
          go_wp2_with fail
          refine (HM.out w2).mono ?_
          rintro e w3 ⟨rfl, hb3⟩
          have hi3 := hI _ _ _ hi2 hb3
          have hk3 := hk2.belowS hb3
          have c30 := hk3.cell 0
          have c31 := hk3.cell 1
          clear hi2 hk2 c20 c21
          go_wp2_with fail
          refine (HS.out w3).mono ?_
          rintro e w4 ⟨rfl, rfl⟩
          go_wp2_with fail
          refine (HC1.out d w3 hi3).mono ?_
          rintro e w4 ⟨rfl, hi4, hkp4⟩
          have hk4 := hkp4 _ _ hk3
          have c40 := hk4.cell 0
          have c41 := hk4.cell 1
          have HK4 := Lib.hid hkp4
          clear hkp4 hk3 c30 c31 hi3
          go_wp2_with fail
          refine (HC2.out _ w4 hi4).mono ?_
          rintro e w5 ⟨rfl, hi5, hkp5⟩
          have HK5 := Lib.hid hkp5
          clear hkp5 hk4 c40 c41 hi4
          go_wp2
          go_end0
          exact ⟨rfl, by rw [HE.out, ← List.append_assoc]; exact hi5, fun g cs h => HK5.out g cs (HK4.out g cs (((HA.out g cs h).belowS hb2).belowS hb3))⟩
        · have HE := Lib.hid (show d ++ outs f t a n = d ++ [(a, n)] by rw [outs_one (by omega) hm])
          have HM := Lib.hid (fun w2 => holds_meets f t a n w2 false (decide_eq_false hm).symm (by omega) (by omega))
          have HK := Lib.hid (fun w2 (h : I w2 d) => hK a n d w2 ha1 ha2 (by omega) h)
          clear hm hh h0 ih hK
          go_enter Tryd.func74, Tryd.ntmps74
          go_wp2_with fail
          generalize w.alloc (.cells #[.int .i64 f, .int .i64 t] 106) = w1 at *
          refine (HH.out w1).mono ?_
          rintro e w2 ⟨rfl, hb2⟩
          have hi2 := hI _ _ _ hi1 hb2
          have hk2 := hk0.belowS hb2
          have c20 := hk2.cell 0
          have c21 := hk2.cell 1
          clear hi1 hk0
          go_wp2_with fail
          refine (HM.out w2).mono ?_
          rintro e w3 ⟨rfl, hb3⟩
          have hi3 := hI _ _ _ hi2 hb3
          clear hi2 hk2 c20 c21
          go_wp2_with fail
          refine (HK.out w3 hi3).mono ?_
          rintro e w4 ⟨rfl, hi4, hkp⟩
          have HKP := Lib.hid hkp
          clear hkp
          go_wp2
          go_end0
          exact ⟨rfl, by rw [HE.out]; exact hi4, fun g cs h => HKP.out g cs (((HA.out g cs h).belowS hb2).belowS hb3)⟩

theorem outs_le (f t : Int) : ∀ (m n : Nat) (a : Int), n ≤ m → (outs f t a n).length ≤ n := by
  intro m
  induction m with
  | zero => intro n a h; rw [outs_none (.inl (by omega))]; simp
  | succ m ih =>
    intro n a h
    by_cases h0 : n = 0 ∨ (f ≤ a ∧ a + n ≤ t)
    · rw [outs_none h0]; simp
    · by_cases h1 : f < t ∧ f < a + n ∧ a < t
      · obtain ⟨h2, he⟩ := outs_two h0 h1
        have k3 := half_lt n h2
        have k4 := half_pos n
        rw [he, List.length_append]
        have := ih (half n) a (by omega)
        have := ih (n - half n) (a + half n) (by omega)
        omega
      · rw [outs_one h0 h1]; simp; omega

set_option maxHeartbeats 1000000 in
theorem count_any (n : Nat) (f t : Int) (w : World) (hn : n ≤ 1048576) (hin : 0 ≤ f ∧ f ≤ t ∧ t ≤ n) :
    Calls Tryd.prog 25 #[.int .i64 n, .int .i64 f, .int .i64 t] w fun e w' => e = .returned (.int .i64 (outs f t 0 n).length) ∧ Below w.heap.size w w' := by
  have HI := Lib.hid (fun w1 => inB_any f t n w1 (by omega))
  rw [show decide (0 ≤ f ∧ f ≤ t ∧ t ≤ n) = true from decide_eq_true hin] at HI
  have HL := Lib.hid (show (outs f t 0 n).length ≤ 1048576 from Nat.le_trans (outs_le f t n n 0 (Nat.le_refl _)) hn)
  have hnI : (n : Int) ≤ 1048576 := by omega
  clear hin hn
  go_enter Tryd.func25, Tryd.ntmps25
  go_wp2_with fail
  have hb0 : Below w.heap.size w ((w.alloc (.cells #[.int .i64 f, .int .i64 t] 106)).alloc (.cells #[.int .i64 0] 3)) := ((Below.refl _ _).alloc (Nat.le_refl _) _).alloc (by simp) _
  have hk0 : Blk ((w.alloc (.cells #[.int .i64 f, .int .i64 t] 106)).alloc (.cells #[.int .i64 0] 3)) w.heap.size 106 #[.int .i64 f, .int .i64 t] := (Blk.new w _ _).alloc _
  have hc0 : Blk ((w.alloc (.cells #[.int .i64 f, .int .i64 t] 106)).alloc (.cells #[.int .i64 0] 3)) (w.heap.size + 1) 3 #[.int .i64 0] := by
    have := Blk.new (w.alloc (.cells #[.int .i64 f, .int .i64 t] 106)) 3 #[.int .i64 0]
    simpa using this
  generalize ((w.alloc (.cells #[.int .i64 f, .int .i64 t] 106)).alloc (.cells #[.int .i64 0] 3)) = w1 at *
  refine (HI.out w1).mono ?_
  rintro e w2 ⟨rfl, hb2⟩
  have hk2 := hk0.belowS hb2
  have hc2 := hc0.belowS hb2
  have hb12 := below_trans2 hb0 hb2
  have c20 := hk2.cell 0
  have c21 := hk2.cell 1
  clear hb0 hb2 hk0 hc0
  go_wp2_with fail
  refine (outsideC_any (w.heap.size + 1) (fun v d => Below w.heap.size w v ∧ Blk v (w.heap.size + 1) 3 #[.int .i64 (wrap64 d.length)]) ?cI 0 n (by omega) (by omega) ?cK f t n n (Nat.le_refl _) 0 [] w2 (Int.le_refl _) (by omega) ⟨hb12, by rw [show wrap64 (([] : List (Int × Nat)).length : Nat) = 0 by simp [wrap64]]; exact hc2⟩).mono ?_
  case cI => exact fun v v' d ⟨h1, h2⟩ hb => ⟨below_trans2 h1 hb, h2.belowS hb⟩
  case cK =>
    intro a n d v _ _ _ ⟨h1, h2⟩
    refine (count1_any (w.heap.size + 1) (wrap64 d.length) a n v h2 (by unfold wrap64; omega)).mono ?_
    rintro e v' ⟨rfl, h3, h4⟩
    refine ⟨rfl, ⟨below_of_only h1 h4 (by omega) h1.size, ?_⟩, fun g cs h => h.grown h4 (fun hg => ?_)⟩
    · rw [show wrap64 ((d ++ [(a, n)]).length : Nat) = wrap64 (wrap64 d.length + 1) by rw [List.length_append]; simp only [List.length_singleton]; unfold wrap64; omega]
      exact h3
    · exact Blk.ne_ h h2 (by decide) (by injection hg)
  rintro e w3 ⟨rfl, ⟨hb3, hc3⟩, _⟩
  rw [List.nil_append, show wrap64 ((outs f t 0 n).length : Nat) = (outs f t 0 n).length by have := HL.out; unfold wrap64; omega] at hc3
  have c30 := hc3.cell 0
  go_wp2
  go_ret
  exact ⟨rfl, hb3⟩

end Go.Proofs.YtkabinicmdcbpaaDoor
