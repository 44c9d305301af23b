
/- The reference's Can. -/
import Derived.Test.YtjhannlioddkkaaGreatDoorRecP
import Derived.Test.YtjhannlioddkkaaGreatDoorRec1
import Derived.BigQuiet
import Derived.Deep.QuietTactic
import Derived.Deep.Cut
namespace Go.Proofs.YtjhannlioddkkaaGreatDoor
open Go.RowKit
set_option linter.unusedVariables false

theorem links_stop : ∀ e : Fin 256, ∀ j : Fin 10, (∀ i : Fin 10, i < j → 2 ^ i.val ≤ e.val ∧ e.val % 2 ^ i.val = 0) → ¬ (2 ^ j.val ≤ e.val ∧ e.val % 2 ^ j.val = 0) → linksI (e.val : Int) = j.val := by decide +kernel

theorem links_stop' (n j : Nat) (hn : n ≤ 255) (hj : j ≤ 8) (h : ∀ i, i < j → 2 ^ i ≤ n ∧ n % 2 ^ i = 0) (hs : ¬ (2 ^ j ≤ n ∧ n % 2 ^ j = 0)) : linksI (n : Int) = j :=
  links_stop ⟨n, by omega⟩ ⟨j, by omega⟩ (fun i hi => h i.val hi) hs
theorem pow8 (j : Nat) (h : j ≤ 8) : 1 ≤ 2 ^ j ∧ 2 ^ j ≤ 256 :=
  ⟨Nat.one_le_two_pow, Nat.pow_le_pow_right (by decide) h⟩

theorem rlinks_any (ep : Int) (h0 : 0 ≤ ep) (h1 : ep ≤ 255) (w : World) :
    Calls Tryz.prog 51 #[.int .i64 ep] w fun e w' => e = .returned (.int .i64 (linksI ep)) ∧ w = w' := by
  obtain ⟨n, rfl⟩ : ∃ n : Nat, ep = n := ⟨ep.toNat, by omega⟩
  have hn : n ≤ 255 := by omega
  clear h0 h1
  go_enter Tryz.func51, Tryz.ntmps51
  go_wp2
  go_loopw [3, 4] (fun c p wr => ∃ j P : Nat, j ≤ 8 ∧ Hid (P = 2 ^ j) ∧ c = .int .i64 j ∧ p = .int .i64 P ∧ Hid (∀ i, i < j → 2 ^ i ≤ n ∧ n % 2 ^ i = 0) ∧ w = wr) (fun c _ _ => 8 - (intOf c).toNat)
  case atStart => exact ⟨0, 1, by omega, rfl, rfl, rfl, fun i hi => absurd hi (by omega), rfl⟩
  case round =>
    obtain ⟨j, P, hj, hP, rfl, rfl, hall, rfl⟩ := hrel
    have hp := pow8 j hj
    rw [← hP.out] at hp
    have hp0 : 0 < P := by omega
    have hPI : -9223372036854775808 ≤ 2 * (P : Int) ∧ 2 * (P : Int) ≤ 9223372036854775807 := by omega
    by_cases hle : P ≤ n
    · have hj7 : j ≤ 7 := by
        rcases Nat.lt_or_ge 7 j with h | h
        · obtain rfl : j = 8 := by omega
          have := hP.out; omega
        · exact h
      by_cases hm : n % P = 0
      · have hmI : ((n : Int) % (P : Int) == 0) = true := by
          rw [beq_iff_eq]; omega
        have HM := Lib.hid (show 2 ^ j ≤ n ∧ n % 2 ^ j = 0 by rw [← hP.out]; exact ⟨hle, hm⟩)
        clear hm
        go_wp2
        exact ⟨⟨j + 1, 2 * P, by omega, (by rw [hP.out, Nat.pow_succ, Nat.mul_comm] : 2 * P = 2 ^ (j + 1)), by go_num, by go_num, fun i hi => by
          rcases Nat.lt_or_ge i j with h | h
          · exact hall.out i h
          · obtain rfl : i = j := by omega
            exact HM.out, trivial⟩, by simp [intOf]; omega⟩
      · have hmI : ((n : Int) % (P : Int) == 0) = false := by
          rw [beq_eq_false_iff_ne]; omega
        have HL := Lib.hid (links_stop' n j hn hj hall.out (fun h => hm (by rw [hP.out]; exact h.2)))
        clear hm
        go_wp2
        go_ret
        exact ⟨ret_int (by rw [HL.out]), rfl⟩
    · have HL := Lib.hid (links_stop' n j hn hj hall.out (fun h => hle (by rw [hP.out]; exact h.1)))
      go_wp2
      go_ret
      exact ⟨ret_int (by rw [HL.out]), rfl⟩

theorem rlinks_q (ep : Int) (h0 : 0 ≤ ep) (h1 : ep ≤ 255) (w : World) :
    Calls Tryz.prog 51 #[.int .i64 ep] w fun e w' => e = .returned (.int .i64 (linksI ep)) ∧ w' = w :=
  (rlinks_any ep h0 h1 w).mono fun e w' ⟨h, k⟩ => ⟨h, k.symm⟩

end Go.Proofs.YtjhannlioddkkaaGreatDoor

namespace Go.Proofs.YtjhannlioddkkaaGreatDoor
open Go.RowKit
set_option linter.unusedVariables false

set_option maxRecDepth 100000 in
set_option maxHeartbeats 4000000 in
theorem rcan_any (size ep ti : Int) (tr : List Int) (co : Int) (li : List Int) (ln : List (List Int)) (v : Value) (w : World) (hz0 : -9223372036854775808 ≤ size) (hz1 : size ≤ 9223372036854775807) (hr : RecV w v ep ti tr co li ln) :
    Calls Tryz.prog 34 #[.int .i64 size, v] w fun e w' => e = .returned (.bool (decide (canI size ep ti tr co li ln))) ∧ Below w.heap.size w w' := by
  obtain ⟨vt, vl, vk, rfl, ht, hl, hk⟩ := hr
  obtain ⟨ta, tcap, rfl, htc, htm⟩ := ht.shape
  obtain ⟨la, lcap, rfl, hlc, hlm⟩ := hl.shape
  obtain ⟨ka, kc, rfl, hkc, hkm⟩ := hk.shape
  rw [List.length_map] at *
  rw [List.length_map] at *
  have hb1 : Below w.heap.size w (w.alloc (.cells #[.int .i64 ep, .int .i64 ti, .slice ta tr.length tcap, .int .i64 co, .slice la li.length lcap, .slice ka ln.length kc] 25)) := (Below.refl _ _).alloc (Nat.le_refl _) _
  have kR := Blk.new w 25 #[.int .i64 ep, .int .i64 ti, .slice ta tr.length tcap, .int .i64 co, .slice la li.length lcap, .slice ka ln.length kc]
  have HK := Lib.hid (hk.below hb1 (Nat.le_refl _))
  have HKR := Lib.hid kR
  have HB1 := Lib.hid hb1
  have HLEN := Lib.hid (Nat.le_trans hkc hkm)
  clear kR hb1 ht hl hk htc htm hlc hlm hkc hkm
  go_enter Tryz.func34, Tryz.ntmps34
  go_upto_region 1 with (fail)
  generalize (w.alloc (.cells #[.int .i64 ep, .int .i64 ti, .slice ta tr.length tcap, .int .i64 co, .slice la li.length lcap, .slice ka ln.length kc] 25)) = w1 at *
  have c0 : w1.cell? ⟨w.heap.size, 0, none⟩ = some (.int .i64 ep) := HKR.out.cell 0
  have c1 : w1.cell? ⟨w.heap.size, 1, none⟩ = some (.int .i64 ti) := HKR.out.cell 1
  have c2 : w1.cell? ⟨w.heap.size, 2, none⟩ = some (.slice ta tr.length tcap) := HKR.out.cell 2
  have c3 : w1.cell? ⟨w.heap.size, 3, none⟩ = some (.int .i64 co) := HKR.out.cell 3
  have c4 : w1.cell? ⟨w.heap.size, 4, none⟩ = some (.slice la li.length lcap) := HKR.out.cell 4
  have c5 : w1.cell? ⟨w.heap.size, 5, none⟩ = some (.slice ka ln.length kc) := HKR.out.cell 5
  by_cases b0 : size < 1
  · have t0 : decide (size < 1) = true := decide_eq_true b0
    have HD := Lib.hid (show decide (canI size ep ti tr co li ln) = false by simp only [decide_eq_false_iff_not]; unfold canI; intro hc; omega)
    go_quiet (fail)
    have hbr := below_drewN HB1.out nq
    generalize w1.drewN nq = w2 at *
    go_wp2
    go_ret
    exact ⟨ret_bool HD.out.symm, hbr⟩
  have t0 : decide (size < 1) = false := decide_eq_false b0
  by_cases b1 : 32 < size
  · have t1 : decide (32 < size) = true := decide_eq_true b1
    have HD := Lib.hid (show decide (canI size ep ti tr co li ln) = false by simp only [decide_eq_false_iff_not]; unfold canI; intro hc; omega)
    go_quiet (fail)
    have hbr := below_drewN HB1.out nq
    generalize w1.drewN nq = w2 at *
    go_wp2
    go_ret
    exact ⟨ret_bool HD.out.symm, hbr⟩
  have t1 : decide (32 < size) = false := decide_eq_false b1
  by_cases b2 : ep < 0
  · have t2 : decide (ep < 0) = true := decide_eq_true b2
    have HD := Lib.hid (show decide (canI size ep ti tr co li ln) = false by simp only [decide_eq_false_iff_not]; unfold canI; intro hc; omega)
    go_quiet (fail)
    have hbr := below_drewN HB1.out nq
    generalize w1.drewN nq = w2 at *
    go_wp2
    go_ret
    exact ⟨ret_bool HD.out.symm, hbr⟩
  have t2 : decide (ep < 0) = false := decide_eq_false b2
  by_cases b3 : 255 < ep
  · have t3 : decide (255 < ep) = true := decide_eq_true b3
    have HD := Lib.hid (show decide (canI size ep ti tr co li ln) = false by simp only [decide_eq_false_iff_not]; unfold canI; intro hc; omega)
    go_quiet (fail)
    have hbr := below_drewN HB1.out nq
    generalize w1.drewN nq = w2 at *
    go_wp2
    go_ret
    exact ⟨ret_bool HD.out.symm, hbr⟩
  have t3 : decide (255 < ep) = false := decide_eq_false b3
  by_cases b4 : ti < 0
  · have t4 : decide (ti < 0) = true := decide_eq_true b4
    have HD := Lib.hid (show decide (canI size ep ti tr co li ln) = false by simp only [decide_eq_false_iff_not]; unfold canI; intro hc; omega)
    go_quiet (fail)
    have hbr := below_drewN HB1.out nq
    generalize w1.drewN nq = w2 at *
    go_wp2
    go_ret
    exact ⟨ret_bool HD.out.symm, hbr⟩
  have t4 : decide (ti < 0) = false := decide_eq_false b4
  by_cases b5 : 1125899906842624 < ti
  · have t5 : decide (1125899906842624 < ti) = true := decide_eq_true b5
    have HD := Lib.hid (show decide (canI size ep ti tr co li ln) = false by simp only [decide_eq_false_iff_not]; unfold canI; intro hc; omega)
    go_quiet (fail)
    have hbr := below_drewN HB1.out nq
    generalize w1.drewN nq = w2 at *
    go_wp2
    go_ret
    exact ⟨ret_bool HD.out.symm, hbr⟩
  have t5 : decide (1125899906842624 < ti) = false := decide_eq_false b5
  by_cases b6 : co < 0
  · have t6 : decide (co < 0) = true := decide_eq_true b6
    have HD := Lib.hid (show decide (canI size ep ti tr co li ln) = false by simp only [decide_eq_false_iff_not]; unfold canI; intro hc; omega)
    go_quiet (fail)
    have hbr := below_drewN HB1.out nq
    generalize w1.drewN nq = w2 at *
    go_wp2
    go_ret
    exact ⟨ret_bool HD.out.symm, hbr⟩
  have t6 : decide (co < 0) = false := decide_eq_false b6
  by_cases b7 : 32 < co
  · have t7 : decide (32 < co) = true := decide_eq_true b7
    have HD := Lib.hid (show decide (canI size ep ti tr co li ln) = false by simp only [decide_eq_false_iff_not]; unfold canI; intro hc; omega)
    go_quiet (fail)
    have hbr := below_drewN HB1.out nq
    generalize w1.drewN nq = w2 at *
    go_wp2
    go_ret
    exact ⟨ret_bool HD.out.symm, hbr⟩
  have t7 : decide (32 < co) = false := decide_eq_false b7
  by_cases e0 : (tr.length : Int) = size
  rotate_left
  · have u0 : ((tr.length : Int) != size) = true := by simpa using e0
    have HD := Lib.hid (show decide (canI size ep ti tr co li ln) = false by simp only [decide_eq_false_iff_not]; unfold canI; intro hc; exact e0 hc.2.2.2.2.1.1)
    go_quiet (fail)
    have hbr := below_drewN HB1.out nq
    generalize w1.drewN nq = w2 at *
    go_wp2
    go_ret
    exact ⟨ret_bool HD.out.symm, hbr⟩
  have u0 : ((tr.length : Int) != size) = false := by simpa using e0
  by_cases e1 : (li.length : Int) = size
  rotate_left
  · have u1 : ((li.length : Int) != size) = true := by simpa using e1
    have HD := Lib.hid (show decide (canI size ep ti tr co li ln) = false by simp only [decide_eq_false_iff_not]; unfold canI; intro hc; exact e1 hc.2.2.2.2.1.2)
    go_quiet (fail)
    have hbr := below_drewN HB1.out nq
    generalize w1.drewN nq = w2 at *
    go_wp2
    go_ret
    exact ⟨ret_bool HD.out.symm, hbr⟩
  have u1 : ((li.length : Int) != size) = false := by simpa using e1
  have HLK := Lib.hid (fun w2 => rlinks_q ep (by omega) (by omega) w2)
  have HC : Hid (canI size ep ti tr co li ln ↔ (ln.length = linksI ep ∧ ∀ x ∈ ln, (x.length : Int) = size)) := ⟨fun h => ⟨h.2.2.2.2.2.1, h.2.2.2.2.2.2⟩, fun h => ⟨⟨by omega, by omega⟩, ⟨by omega, by omega⟩, ⟨by omega, by omega⟩, ⟨by omega, by omega⟩, ⟨e0, e1⟩, h.1, h.2⟩⟩
  generalize hLK : linksI ep = LK at *
  have HLKE := Lib.hid hLK
  clear hLK
  by_cases e2 : ln.length = LK
  rotate_left
  · have u2 : ((ln.length : Int) != (LK : Int)) = true := by simp; omega
    have HD := Lib.hid (show decide (canI size ep ti tr co li ln) = false by simp only [decide_eq_false_iff_not]; exact fun hc => e2 (HC.out.1 hc).1)
    go_quiet (first | (go_at_call 51; refine Calls.quiet_of_same (HLK.out _)))
    have hbr := below_drewN HB1.out nq
    generalize w1.drewN nq = w2 at *
    go_wp2
    go_ret
    exact ⟨ret_bool HD.out.symm, hbr⟩
  have u2 : ((ln.length : Int) != (LK : Int)) = false := by simp [e2]
  have HC2 : Hid (canI size ep ti tr co li ln ↔ ∀ x ∈ ln, (x.length : Int) = size) := ⟨fun h => (HC.out.1 h).2, fun h => HC.out.2 ⟨e2, h⟩⟩
  have hlc : ln.length ≤ 9223372036854775807 := by have := HLEN.out; omega
  clear HC
  go_quiet (first | (go_at_call 51; refine Calls.quiet_of_same (HLK.out _)))
  have hbn := below_drewN HB1.out nq
  have c5 : (w1.drewN nq).cell? ⟨w.heap.size, 5, none⟩ = some (.slice ka ln.length kc) := HKR.out.cell 5
  have HK2 := Lib.hid (HK.out.below (below_drewN (Below.refl w1.heap.size w1) nq) (Nat.le_refl _))
  clear c0 c1 c2 c3 c4 t0 t1 t2 t3 t4 t5 t6 t7 b0 b1 b2 b3 b4 b5 b6 b7 u0 u1 u2 e0 e1 e2 HLK HLKE
  generalize w1.drewN nq = w2 at *
  go_wp2
  go_loopw [69] (fun i wr => ∃ k : Nat, k ≤ ln.length ∧ i = .int .i64 k ∧ Hid (∀ j, j < k → ((ln.getD j []).length : Int) = size) ∧ w2 = wr) (fun i _ => ln.length - (intOf i).toNat)
  case atStart => exact ⟨0, by omega, rfl, fun j hj => absurd hj (by omega), rfl⟩
  case round =>
    obtain ⟨k, hk, rfl, hall, rfl⟩ := hrel
    by_cases hlt : k < ln.length
    · obtain ⟨b, off, rfl, hb, u, hu, hs⟩ := HK2.out.at hlt
      have hkI : (k : Int) < (ln.length : Int) := by omega
      have hmem : ln.getD k [] ∈ ln := by rw [List.getD_eq_getElem?_getD, List.getElem?_eq_getElem hlt]; exact List.getElem_mem hlt
      generalize hP : ln.getD k [] = P at *
      have HP := Lib.hid hP
      clear hP
      obtain ⟨ua, uc, rfl, _, _⟩ := hs.shape
      simp only [List.length_map] at *
      by_cases hx : (P.length : Int) = size
      · have HX := Lib.hid hx
        have hx' : ((P.length : Int) != size) = false := by simpa using hx
        clear hs hx
        go_wp2
        go_roundw
        case rel =>
          refine ⟨k + 1, by omega, by go_num, fun j hj => ?_, by first | rfl | trivial⟩
          rcases Nat.lt_or_ge j k with h | h
          · exact hall.out j h
          · obtain rfl : j = k := by omega
            rw [HP.out]; exact HX.out
        case measure => simp [intOf]; omega
      · have hx' : ((P.length : Int) != size) = true := by simpa using hx
        have HD := Lib.hid (show decide (canI size ep ti tr co li ln) = false by
          simp only [decide_eq_false_iff_not]
          intro hq
          exact hx (HC2.out.1 hq _ hmem))
        clear hs hx
        go_wp2
        go_ret
        exact ⟨ret_bool HD.out.symm, hbn⟩
    · have hkI : ¬ (k : Int) < (ln.length : Int) := by omega
      have HD := Lib.hid (show decide (canI size ep ti tr co li ln) = true by
        simp only [decide_eq_true_eq]
        refine HC2.out.2 fun p hp => ?_
        obtain ⟨j, hj, rfl⟩ := List.mem_iff_getElem.1 hp
        have := hall.out j (by omega)
        rwa [List.getD_eq_getElem?_getD, List.getElem?_eq_getElem hj] at this)
      go_wp2
      go_ret
      exact ⟨ret_bool HD.out.symm, hbn⟩

end Go.Proofs.YtjhannlioddkkaaGreatDoor
