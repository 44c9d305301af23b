
/- The walks of Number, the program's and the reference's. -/
import Derived.Test.YtgfkejecigefbaaDoorTextC
namespace Go.Proofs.YtgfkejecigefbaaDoor
open Go.RowKit
set_option linter.unusedVariables false

/-- A number in eight bytes. -/
def numI (n : Int) : List Int := (List.range 8).map fun j => n / 256 ^ (7 - j) % 256

theorem numI_isB (n : Int) : IsB (numI n) := by
  intro x hx
  obtain ⟨j, _, rfl⟩ := List.mem_map.1 hx
  omega

theorem div_step (n : Int) (k : Nat) : n / 256 ^ (k + 1) = n / 256 ^ k / 256 := by
  rw [Int.pow_succ, Int.ediv_ediv_of_nonneg (Int.pow_nonneg (by omega))]

theorem div_bd (n : Int) (k : Nat) (h0 : -9223372036854775808 ≤ n) (h1 : n ≤ 9223372036854775807) : -9223372036854775808 ≤ n / 256 ^ k ∧ n / 256 ^ k ≤ 9223372036854775807 := by
  induction k with
  | zero => simpa using ⟨h0, h1⟩
  | succ k ih => rw [div_step]; omega

set_option maxHeartbeats 1000000 in
theorem number_any (n : Int) (w : World) (h0 : -9223372036854775808 ≤ n) (h1 : n ≤ 9223372036854775807) :
    Calls Tryd.prog 59 #[.int .i64 n] w fun e w' => ∃ x, e = .returned x ∧ Sl w' x ((numI n).map (Value.int .u8)) ∧ Below w.heap.size w w' := by
  go_enter Tryd.func59, Tryd.ntmps59
  go_wp2
  have hb0 : Below w.heap.size w (w.alloc (.cells #[.int .u8 0, .int .u8 0, .int .u8 0, .int .u8 0, .int .u8 0, .int .u8 0, .int .u8 0, .int .u8 0] 137)) := (Below.refl _ _).alloc (Nat.le_refl _) _
  have hr0 : (w.alloc (.cells #[.int .u8 0, .int .u8 0, .int .u8 0, .int .u8 0, .int .u8 0, .int .u8 0, .int .u8 0, .int .u8 0] 137)).rowIs w.heap.size 137 8 (fun j => .int .u8 (if 8 - 0 ≤ j then n / 256 ^ (7 - j) % 256 else 0)) := World.rowIs_alloc w _ _ _ (fun i hi => by
    have hi8 : i < 8 := hi
    rw [if_neg (by omega)]
    obtain rfl | rfl | rfl | rfl | rfl | rfl | rfl | rfl : i = 0 ∨ i = 1 ∨ i = 2 ∨ i = 3 ∨ i = 4 ∨ i = 5 ∨ i = 6 ∨ i = 7 := by omega
    all_goals rfl)
  generalize (w.alloc (.cells #[.int .u8 0, .int .u8 0, .int .u8 0, .int .u8 0, .int .u8 0, .int .u8 0, .int .u8 0, .int .u8 0] 137)) = w1 at hb0 hr0 ⊢
  go_loopw [0, 4] (fun x i wr => ∃ k : Nat, k ≤ 8 ∧ i = .int .i64 (8 - (k : Int)) ∧ x = .int .i64 (n / 256 ^ k) ∧ wr.rowIs w.heap.size 137 8 (fun j => .int .u8 (if 8 - k ≤ j then n / 256 ^ (7 - j) % 256 else 0)) ∧ Below w.heap.size w wr) (fun _ i _ => (intOf i).toNat)
  case atStart => exact ⟨0, by omega, rfl, by simp, hr0, hb0⟩
  case round =>
    clear hr0 hb0
    obtain ⟨k, hk, rfl, rfl, hr, hbr⟩ := hrel
    by_cases hlt : k < 8
    · obtain ⟨p, hp⟩ : ∃ p : Nat, p = 7 - k := ⟨_, rfl⟩
      have hpI : (8 : Int) - (k : Int) - 1 = (p : Int) := by omega
      have hpW : IntKind.i64.wrap ((8 : Int) - (k : Int) - 1) = (p : Int) := by rw [IntKind.wrap_i64]; omega
      have hp8 : (p : Int) < 8 := by omega
      have c0 : wr.cell? ⟨w.heap.size, p, none⟩ = some (.int .u8 (if 8 - k ≤ p then n / 256 ^ (7 - p) % 256 else 0)) := hr.cell (by omega)
      have hfz : wr.frozen? ⟨w.heap.size, p, none⟩ = false := hr.frozen _
      have hr2 := (hr.set p (.int .u8 (n / 256 ^ k % 256))).congr (g := fun j => .int .u8 (if 8 - (k + 1) ≤ j then n / 256 ^ (7 - j) % 256 else 0)) fun j hj => by
        by_cases h : j = p
        · rw [if_pos h, if_pos (by omega), show 7 - j = k by omega]
        · rw [if_neg h]
          by_cases h2 : 8 - k ≤ j
          · rw [if_pos h2, if_pos (by omega)]
          · rw [if_neg h2, if_neg (by omega)]
      have hbd := div_bd n k h0 h1
      have HD := Lib.hid (div_step n k)
      generalize n / 256 ^ k = X at *
      have HP := Lib.hid hp
      clear hp hpI
      go_wp2
      go_roundw
      case rel =>
        exact ⟨k + 1, by omega, by have := HP.out; go_num, by rw [HD.out], hr2, hbr.setCell (Nat.le_refl _) _⟩
      case measure => have := HP.out; simp [intOf]; omega
    · have hk8 : k = 8 := by omega
      have hkI : ¬ (0 : Int) < 8 - (k : Int) := by omega
      rw [hk8] at hr
      have hS := Sl.of_row (F := fun j => n / 256 ^ (7 - j) % 256) (off := 0) (c := 8) (cap := 8) (hr.congr fun j hj => by rw [if_pos (by omega)]) (by omega) (Nat.le_refl _) (by unfold maxLen; omega)
      simp only [Nat.zero_add] at hS
      clear hr
      go_wp2
      go_ret
      exact ⟨_, rfl, hS, hbr⟩

theorem shr_num (n : Int) (k : Nat) (h : k < 8) : (IntKind.u64.wrap n) / 2 ^ (56 - 8 * k) % 256 = n / 256 ^ (7 - k) % 256 := by
  rw [IntKind.wrap_u64]
  obtain rfl | rfl | rfl | rfl | rfl | rfl | rfl | rfl : k = 0 ∨ k = 1 ∨ k = 2 ∨ k = 3 ∨ k = 4 ∨ k = 5 ∨ k = 6 ∨ k = 7 := by omega
  all_goals (simp <;> omega)

set_option maxRecDepth 100000 in
set_option maxHeartbeats 1000000 in
theorem refNumber_any (n : Int) (w : World) (h0 : -9223372036854775808 ≤ n) (h1 : n ≤ 9223372036854775807) :
    Calls Tryd.prog 118 #[.int .i64 n] w fun e w' => ∃ x, e = .returned x ∧ Sl w' x ((numI n).map (Value.int .u8)) ∧ Below w.heap.size w w' := by
  obtain ⟨i0, hi, hz0, hz1, hz2⟩ := info_parts info8
  have hone : ∀ xs : List Int, ∀ u ∈ xs.map (Value.int .u8), u.oneCell' = true := fun xs u hu => by obtain ⟨x, _, rfl⟩ := List.mem_map.1 hu; rfl
  go_enter Tryd.func118, Tryd.ntmps118
  go_wp2
  go_loopw [3, 4] (fun v i wr => ∃ k : Nat, k ≤ 8 ∧ i = .int .i64 (56 - 8 * (k : Int)) ∧ wr.ownsRow w.heap.size 5 1 v k (((numI n).take k).map (Value.int .u8)) ∧ Below w.heap.size w wr) (fun _ i _ => (intOf i + 8).toNat)
  case atStart => exact ⟨0, by omega, rfl, World.ownsRow_nil _ _ _ _, Below.refl _ _⟩
  case round =>
    obtain ⟨k, hk, rfl, hown, hbr⟩ := hrel
    have hsz := hbr.size
    by_cases h8 : k < 8
    · have hsh := shr_num n k h8
      have hI8 : (0 : Int) ≤ 56 - 8 * (k : Int) := by omega
      have hux : 0 ≤ IntKind.u64.wrap n ∧ IntKind.u64.wrap n ≤ 18446744073709551615 := by rw [IntKind.wrap_u64]; omega
      have hsn : ((numI n).take (k + 1)).map (Value.int .u8) = ((numI n).take k).map (Value.int .u8) ++ [Value.int .u8 (n / 256 ^ (7 - k) % 256)] := by
        rw [List.take_succ_eq_append_getElem (by simp [numI]; omega), List.map_append]
        simp [numI]
      have HSN := Lib.hid hsn
      clear hsn
      rw [← hsh] at HSN
      clear hsh hux
      go_wp2_with (at_builtin; refine wpList_append_sl rfl _ _ 26 rfl w.heap.size 5 i0 (.int .u8 0) 1 Tryd.underlying26 hi hz0 hz1 hz2 rfl _ _ _ rfl (hown.alloc _) (.slice (some ⟨wr.heap.size, 0, none⟩) 1 1) ([IntKind.u64.wrap n / 2 ^ (56 - 8 * k) % 256].map (Value.int .u8)) rfl (Sl.litL wr ([IntKind.u64.wrap n / 2 ^ (56 - 8 * k) % 256].map (Value.int .u8)) _ (by simp [maxLen])) (hone _) (by simp only [List.length_map, List.length_cons, List.length_nil]; unfold maxLen; omega) (by simp only [List.length_map, List.length_cons, List.length_nil]; omega) (by simp; omega) ?_)
      intro v3 w6 hown3 hg6
      have hb6 := below_append hbr hown (Nat.le_refl _) hsz hg6
      clear hg6 hown
      go_wp2
      go_roundw
      case rel =>
        refine ⟨k + 1, by omega, by go_num, ?_, hb6⟩
        rw [HSN.out, List.map_take]
        exact hown3
      case measure => simp [intOf]; omega
    · have hI8 : ¬ (0 : Int) ≤ 56 - 8 * (k : Int) := by omega
      have hk8 : k = 8 := by omega
      rw [hk8, List.take_of_length_le (by simp [numI])] at hown
      go_wp2
      go_ret
      exact ⟨_, rfl, Sl.of_owns hown, hbr⟩

end Go.Proofs.YtgfkejecigefbaaDoor
