/- The plain law of the gaps, and the walks of tiers.Gap and the reference's Gap. -/
import Derived.Test.YtmmkbahgeffmpaaTiersE
namespace Go.Proofs.Ytmmkbahgeffmpaa
open Go.RowKit
set_option linter.unusedVariables false

def gapN (a : Int) : Nat → Int
  | 0 => 0
  | n + 1 => max (gapN a n) (n - down a n)

theorem gapN_bd (a : Int) (n : Nat) : 0 ≤ gapN a n ∧ gapN a n ≤ n := by
  induction n with
  | zero => simp [gapN]
  | succ n ih => have := down_le a n; simp only [gapN]; omega

theorem gapN_succ (a : Int) (n : Nat) : gapN a (n + 1) = max (gapN a n) (n - down a n) := rfl

theorem getD_append_left {l l' : List Int} {i : Nat} {x : Int} (h : i < l.length) : (l ++ l').getD i x = l.getD i x := by
  rw [List.getD_eq_getElem?_getD, List.getD_eq_getElem?_getD, List.getElem?_append_left h]

theorem gapN_run (a : Int) (m d : Nat) (h : ∀ e : Nat, m ≤ e → e < m + (d + 1) → down a e = m) : gapN a (m + (d + 1)) = max (gapN a m) d := by
  have hb := gapN_bd a m
  induction d with
  | zero => have h0 := h m (Nat.le_refl _) (by omega); rw [← Nat.add_assoc, gapN_succ]; show max (gapN a m) ((m : Int) - down a m) = _; rw [h0]; omega
  | succ d ih =>
    have h1 := ih (fun e h1 h2 => h e h1 (by omega))
    have h2 := h (m + (d + 1)) (by omega) (by omega)
    rw [← Nat.add_assoc m (d + 1) 1, gapN_succ, h1, h2]; omega

/-- What one kept epoch and the next one (or the end) are to each other. -/
theorem kept_next (a : Int) (ha : 0 ≤ a) (n : Nat) (hn : (n : Int) ≤ a + 1) : ∀ i, i < (keptL a n).length → ∃ m d : Nat, (keptL a n).getD i 0 = m ∧ (keptL a n).getD (i + 1) n = m + (d + 1) ∧ m + (d + 1) ≤ n ∧ ∀ e : Nat, m ≤ e → e < m + (d + 1) → down a e = m := by
  induction n with
  | zero => intro i hi; simp [keptL] at hi
  | succ n ih =>
    intro i hi
    by_cases hk : keepsB a n = true
    · rw [keptL_yes a n hk] at hi ⊢
      simp only [List.length_append, List.length_cons, List.length_nil] at hi
      rcases Nat.lt_or_ge i (keptL a n).length with h | h
      · obtain ⟨m, d, h1, h2, h3, h4⟩ := ih (by omega) i h
        refine ⟨m, d, ?_, ?_, by omega, h4⟩
        · rw [getD_append_left h]; exact h1
        · rw [← h2]
          rcases Nat.lt_or_ge (i + 1) (keptL a n).length with h5 | h5
          · rw [getD_append_left h5]; simp [List.getD_eq_getElem?_getD, List.getElem?_eq_getElem h5]
          · obtain h6 : i + 1 = (keptL a n).length := by omega
            rw [h6]; simp [List.getD_eq_getElem?_getD]
      · obtain h6 : i = (keptL a n).length := by omega
        refine ⟨n, 0, ?_, ?_, by omega, fun e h1 h2 => ?_⟩
        · rw [h6]; simp [List.getD_eq_getElem?_getD]
        · rw [h6]; simp [List.getD_eq_getElem?_getD]
        · obtain rfl : e = n := by omega
          exact down_kept a e hk
    · have hkf : keepsB a n = false := by simpa using hk
      rw [keptL_no a n hkf] at hi ⊢
      obtain ⟨m, d, h1, h2, h3, h4⟩ := ih (by omega) i hi
      rcases Nat.lt_or_ge (i + 1) (keptL a n).length with h5 | h5
      · refine ⟨m, d, h1, ?_, by omega, h4⟩
        rw [← h2]; simp [List.getD_eq_getElem?_getD, List.getElem?_eq_getElem h5]
      · have h6 : (keptL a n).getD (i + 1) (n : Int) = n := by simp [List.getD_eq_getElem?_getD, List.getElem?_eq_none h5]
        rw [h6] at h2
        refine ⟨m, d + 1, h1, ?_, by omega, fun e he1 he2 => ?_⟩
        · simp [List.getD_eq_getElem?_getD, List.getElem?_eq_none h5]; omega
        · rcases Nat.lt_or_ge e n with h7 | h7
          · exact h4 e he1 (by omega)
          · obtain rfl : e = n := by omega
            obtain ⟨e', rfl⟩ : ∃ e', e = e' + 1 := ⟨e - 1, by omega⟩
            rw [down_step a e' (by simpa using hkf)]
            exact h4 e' (by omega) (by omega)

theorem kept_first (a : Int) (ha : 0 ≤ a) (n : Nat) (hn : 0 < n) : 0 < (keptL a n).length ∧ (keptL a n).getD 0 0 = 0 := by
  obtain ⟨n, rfl⟩ : ∃ k, n = k + 1 := ⟨n - 1, by omega⟩
  clear hn
  induction n with
  | zero => rw [keptL_yes a 0 (by simp [keepsB]; omega)]; simp [keptL]
  | succ n ih =>
    by_cases hk : keepsB a ((n + 1 : Nat) : Int) = true
    · rw [keptL_yes a (n + 1) hk]
      refine ⟨by simp, ?_⟩
      rw [getD_append_left ih.1]; exact ih.2
    · rw [keptL_no a (n + 1) (by simpa using hk)]; exact ih

set_option maxHeartbeats 1000000 in
theorem refGap_any (a : Int) (h0 : 0 ≤ a) (h1 : a ≤ 1048576) (w : World) :
    Calls Try.prog 27 #[.int .i64 a] w fun e w' => e = .returned (.int .i64 (gapN a (a + 1).toNat)) ∧ w = w' := by
  go_enter Try.func27, Try.ntmps27
  go_wp2
  go_loop [3, 4] (fun g i => ∃ e : Nat, (e : Int) ≤ a + 1 ∧ i = .int .i64 e ∧ g = .int .i64 (gapN a e)) (fun _ i => (a + 1 - intOf i).toNat)
  case atStart => exact ⟨0, by omega, rfl, rfl⟩
  case round =>
    obtain ⟨e, he, rfl, rfl⟩ := hrel
    have hb := gapN_bd a e
    by_cases hlt : (e : Int) ≤ a
    · have hd := down_le a e
      have HS := Lib.hid (show gapN a (e + 1) = max (gapN a e) (e - down a e) from rfl)
      have HN := Lib.hid (show nearI a e = down a e by unfold nearI; rw [if_neg (by omega)]; simp)
      go_wp2_with (go_at_call 32; refine (refNear_any _ _ (by omega) (by omega) (by omega) (by omega) _).mono ?_; rw [HN.out]; rintro e w1 ⟨rfl, rfl⟩)
      all_goals
        go_round
        case rel => exact ⟨e + 1, by omega, by go_num, by rw [HS.out]; congr 1; omega⟩
        case measure => simp [intOf]; omega
    · obtain rfl : e = (a + 1).toNat := by omega
      go_wp2
      go_ret
      exact ⟨rfl, rfl⟩

end Go.Proofs.Ytmmkbahgeffmpaa
