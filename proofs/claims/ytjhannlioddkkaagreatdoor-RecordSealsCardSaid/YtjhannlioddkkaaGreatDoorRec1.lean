
/- Records: within, sized, Can. -/
import Derived.Test.YtjhannlioddkkaaGreatDoorTz
import Derived.Test.YtjhannlioddkkaaGreatDoorOwnT
import Derived.Deep.RegionHeld3
import Derived.BigQuiet
import Derived.Deep.QuietTactic
namespace Go.Proofs.YtjhannlioddkkaaGreatDoor
open Go.RowKit
set_option linter.unusedVariables false

theorem within_any (n h : Int) (w : World) : Calls Tryz.prog 15 #[.int .i64 n, .int .i64 h] w fun e w' => e = .returned (.bool (decide (0 ≤ n ∧ n ≤ h))) ∧ w = w' := by
  by_cases h0 : 0 ≤ n
  · by_cases h1 : n ≤ h
    · have HD := Lib.hid (show decide (0 ≤ n ∧ n ≤ h) = true by simp [h0, h1])
      go_enter Tryz.func15, Tryz.ntmps15
      go_wp2
      go_ret
      exact ⟨ret_bool (by first | (rw [HD.out]; done) | (simp; omega)), rfl⟩
    · have HD := Lib.hid (show decide (0 ≤ n ∧ n ≤ h) = false by simp [h1])
      go_enter Tryz.func15, Tryz.ntmps15
      go_wp2
      go_ret
      exact ⟨ret_bool (by first | (rw [HD.out]; done) | (simp; omega)), rfl⟩
  · have HD := Lib.hid (show decide (0 ≤ n ∧ n ≤ h) = false by simp [h0])
    go_enter Tryz.func15, Tryz.ntmps15
    go_wp2
    go_ret
    exact ⟨ret_bool (by first | (rw [HD.out]; done) | (simp; omega)), rfl⟩

set_option maxHeartbeats 1000000 in
theorem rsized_any (size : Int) (v : Value) (pss : List (List Int)) (w : World) (h : Sls w v pss) :
    Calls Tryz.prog 16 #[.int .i64 size, v] w fun e w' => e = .returned (.bool (decide (∀ p ∈ pss, (p.length : Int) = size))) ∧ w = w' := by
  obtain ⟨a, cap, rfl, hc, hm⟩ := h.shape
  go_enter Tryz.func16, Tryz.ntmps16
  go_wp2
  go_loopw [9] (fun i wr => ∃ k : Nat, k ≤ pss.length ∧ i = .int .i64 k ∧ Hid (∀ j, j < k → ((pss.getD j []).length : Int) = size) ∧ w = wr) (fun i _ => pss.length - (intOf i).toNat)
  case atStart => exact ⟨0, by omega, rfl, fun j hj => absurd hj (by omega), rfl⟩
  case round =>
    obtain ⟨k, hk, rfl, hall, rfl⟩ := hrel
    by_cases hlt : k < pss.length
    · obtain ⟨b, off, rfl, hb, u, hu, hs⟩ := h.at hlt
      have hkI : (k : Int) < (pss.length : Int) := by omega
      have hmem : pss.getD k [] ∈ pss := by rw [List.getD_eq_getElem?_getD, List.getElem?_eq_getElem hlt]; exact List.getElem_mem hlt
      generalize hP : pss.getD k [] = P at *
      have HP := Lib.hid hP
      clear hP
      obtain ⟨ua, uc, rfl, _, _⟩ := hs.shape
      rw [List.length_map] at *
      by_cases hx : (P.length : Int) = size
      · have HX := Lib.hid hx
        have hx' : ((P.length : Int) != size) = false := by simpa using hx
        clear hs hx
        go_wp2
        go_roundw
        case rel =>
          refine ⟨k + 1, by omega, by go_num, fun j hj => ?_, by first | rfl | trivial⟩
          rcases Nat.lt_or_ge j k with h | h
          · exact hall.out j h
          · obtain rfl : j = k := by omega
            rw [HP.out]; exact HX.out
        case measure => simp [intOf]; omega
      · have hx' : ((P.length : Int) != size) = true := by simpa using hx
        have HD := Lib.hid (show decide (∀ p ∈ pss, (p.length : Int) = size) = false by
          simp only [decide_eq_false_iff_not]
          intro hq
          exact hx (hq _ hmem))
        clear hs hx
        go_wp2
        go_ret
        exact ⟨ret_bool HD.out.symm, rfl⟩
    · have hkI : ¬ (k : Int) < (pss.length : Int) := by omega
      have HD := Lib.hid (show decide (∀ p ∈ pss, (p.length : Int) = size) = true by
        simp only [decide_eq_true_eq]
        intro p hp
        obtain ⟨j, hj, rfl⟩ := List.mem_iff_getElem.1 hp
        have := hall.out j (by omega)
        rwa [List.getD_eq_getElem?_getD, List.getElem?_eq_getElem hj] at this)
      go_wp2
      go_ret
      exact ⟨ret_bool HD.out.symm, rfl⟩

/-- The value is a record. -/
def RecV (w : World) (v : Value) (ep ti : Int) (tr : List Int) (co : Int) (li : List Int) (ln : List (List Int)) : Prop :=
  ∃ vt vl vk, v = .agg #[.int .i64 ep, .int .i64 ti, vt, .int .i64 co, vl, vk] ∧ Sl w vt (tr.map (Value.int .u8)) ∧ Sl w vl (li.map (Value.int .u8)) ∧ Sls w vk ln
theorem RecV.below {w w' : World} {v : Value} {ep ti co : Int} {tr li : List Int} {ln : List (List Int)} (h : RecV w v ep ti tr co li ln) {B : Nat} (hb : Below B w w') (hB : w.heap.size ≤ B) : RecV w' v ep ti tr co li ln := by
  obtain ⟨vt, vl, vk, rfl, h1, h2, h3⟩ := h
  exact ⟨vt, vl, vk, rfl, h1.below hb hB, h2.below hb hB, h3.below hb hB⟩

end Go.Proofs.YtjhannlioddkkaaGreatDoor
