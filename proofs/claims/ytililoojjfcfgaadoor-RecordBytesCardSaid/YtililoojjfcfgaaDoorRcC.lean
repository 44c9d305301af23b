/- The reference's Links: how many links a record has. The reference's Can. Records: the reference's Encode. Records: what the reference's Decode keeps while it reads; the reader's End. Records: the reference's Decode. Records: their hashes. -/
import Derived.Test.YtililoojjfcfgaaDoorRecP
import Derived.Test.YtililoojjfcfgaaDoorRcA
import Derived.BigQuiet
import Derived.Deep.QuietTactic
import Derived.Deep.Cut
import Derived.Test.YtililoojjfcfgaaDoorCodecR
import Derived.Deep.RegionHeld3
import Derived.Test.YtililoojjfcfgaaDoorRcB
import Derived.Test.YtililoojjfcfgaaDoorRefRu
import Derived.Test.YtililoojjfcfgaaDoorRecQ
import Derived.Test.YtililoojjfcfgaaDoorClone
import Derived.Test.YtililoojjfcfgaaDoorTextC
namespace Go.Proofs.YtililoojjfcfgaaDoor
open Go.RowKit
set_option linter.unusedVariables false

theorem links_stop : ∀ e : Fin 256, ∀ j : Fin 10, (∀ i : Fin 10, i < j → 2 ^ i.val ≤ e.val ∧ e.val % 2 ^ i.val = 0) → ¬ (2 ^ j.val ≤ e.val ∧ e.val % 2 ^ j.val = 0) → linksI (e.val : Int) = j.val := by decide +kernel

theorem links_stop' (n j : Nat) (hn : n ≤ 255) (hj : j ≤ 8) (h : ∀ i, i < j → 2 ^ i ≤ n ∧ n % 2 ^ i = 0) (hs : ¬ (2 ^ j ≤ n ∧ n % 2 ^ j = 0)) : linksI (n : Int) = j :=
  links_stop ⟨n, by omega⟩ ⟨j, by omega⟩ (fun i hi => h i.val hi) hs
theorem pow8 (j : Nat) (h : j ≤ 8) : 1 ≤ 2 ^ j ∧ 2 ^ j ≤ 256 :=
  ⟨Nat.one_le_two_pow, Nat.pow_le_pow_right (by decide) h⟩

theorem rlinks_any (ep : Int) (h0 : 0 ≤ ep) (h1 : ep ≤ 255) (w : World) :
    Calls Tryd.prog 87 #[.int .i64 ep] w fun e w' => e = .returned (.int .i64 (linksI ep)) ∧ w = w' := by
  obtain ⟨n, rfl⟩ : ∃ n : Nat, ep = n := ⟨ep.toNat, by omega⟩
  have hn : n ≤ 255 := by omega
  clear h0 h1
  go_enter Tryd.func87, Tryd.ntmps87
  go_wp2
  go_loopw [3, 4] (fun c p wr => ∃ j P : Nat, j ≤ 8 ∧ Hid (P = 2 ^ j) ∧ c = .int .i64 j ∧ p = .int .i64 P ∧ Hid (∀ i, i < j → 2 ^ i ≤ n ∧ n % 2 ^ i = 0) ∧ w = wr) (fun c _ _ => 8 - (intOf c).toNat)
  case atStart => exact ⟨0, 1, by omega, rfl, rfl, rfl, fun i hi => absurd hi (by omega), rfl⟩
  case round =>
    obtain ⟨j, P, hj, hP, rfl, rfl, hall, rfl⟩ := hrel
    have hp := pow8 j hj
    rw [← hP.out] at hp
    have hp0 : 0 < P := by omega
    have hPI : -9223372036854775808 ≤ 2 * (P : Int) ∧ 2 * (P : Int) ≤ 9223372036854775807 := by omega
    by_cases hle : P ≤ n
    · have hj7 : j ≤ 7 := by
        rcases Nat.lt_or_ge 7 j with h | h
        · obtain rfl : j = 8 := by omega
          have := hP.out; omega
        · exact h
      by_cases hm : n % P = 0
      · have hmI : ((n : Int) % (P : Int) == 0) = true := by
          rw [beq_iff_eq]; omega
        have HM := Lib.hid (show 2 ^ j ≤ n ∧ n % 2 ^ j = 0 by rw [← hP.out]; exact ⟨hle, hm⟩)
        clear hm
        go_wp2
        exact ⟨⟨j + 1, 2 * P, by omega, (by rw [hP.out, Nat.pow_succ, Nat.mul_comm] : 2 * P = 2 ^ (j + 1)), by go_num, by go_num, fun i hi => by
          rcases Nat.lt_or_ge i j with h | h
          · exact hall.out i h
          · obtain rfl : i = j := by omega
            exact HM.out, trivial⟩, by simp [intOf]; omega⟩
      · have hmI : ((n : Int) % (P : Int) == 0) = false := by
          rw [beq_eq_false_iff_ne]; omega
        have HL := Lib.hid (links_stop' n j hn hj hall.out (fun h => hm (by rw [hP.out]; exact h.2)))
        clear hm
        go_wp2
        go_ret
        exact ⟨ret_int (by rw [HL.out]), rfl⟩
    · have HL := Lib.hid (links_stop' n j hn hj hall.out (fun h => hle (by rw [hP.out]; exact h.1)))
      go_wp2
      go_ret
      exact ⟨ret_int (by rw [HL.out]), rfl⟩

theorem rlinks_q (ep : Int) (h0 : 0 ≤ ep) (h1 : ep ≤ 255) (w : World) :
    Calls Tryd.prog 87 #[.int .i64 ep] w fun e w' => e = .returned (.int .i64 (linksI ep)) ∧ w' = w :=
  (rlinks_any ep h0 h1 w).mono fun e w' ⟨h, k⟩ => ⟨h, k.symm⟩

end Go.Proofs.YtililoojjfcfgaaDoor

namespace Go.Proofs.YtililoojjfcfgaaDoor
open Go.RowKit
set_option linter.unusedVariables false

set_option maxRecDepth 100000 in
set_option maxHeartbeats 4000000 in
theorem rcan_any (size ep ti : Int) (tr : List Int) (co : Int) (li : List Int) (ln : List (List Int)) (v : Value) (w : World) (hz0 : -9223372036854775808 ≤ size) (hz1 : size ≤ 9223372036854775807) (hr : RecV w v ep ti tr co li ln) :
    Calls Tryd.prog 45 #[.int .i64 size, v] w fun e w' => e = .returned (.bool (decide (canI size ep ti tr co li ln))) ∧ Below w.heap.size w w' := by
  obtain ⟨vt, vl, vk, rfl, ht, hl, hk⟩ := hr
  obtain ⟨ta, tcap, rfl, htc, htm⟩ := ht.shape
  obtain ⟨la, lcap, rfl, hlc, hlm⟩ := hl.shape
  obtain ⟨ka, kc, rfl, hkc, hkm⟩ := hk.shape
  rw [List.length_map] at *
  rw [List.length_map] at *
  have hb1 : Below w.heap.size w (w.alloc (.cells #[.int .i64 ep, .int .i64 ti, .slice ta tr.length tcap, .int .i64 co, .slice la li.length lcap, .slice ka ln.length kc] 25)) := (Below.refl _ _).alloc (Nat.le_refl _) _
  have kR := Blk.new w 25 #[.int .i64 ep, .int .i64 ti, .slice ta tr.length tcap, .int .i64 co, .slice la li.length lcap, .slice ka ln.length kc]
  have HK := Lib.hid (hk.below hb1 (Nat.le_refl _))
  have HKR := Lib.hid kR
  have HB1 := Lib.hid hb1
  have HLEN := Lib.hid (Nat.le_trans hkc hkm)
  clear kR hb1 ht hl hk htc htm hlc hlm hkc hkm
  go_enter Tryd.func45, Tryd.ntmps45
  go_upto_region 1 with (fail)
  generalize (w.alloc (.cells #[.int .i64 ep, .int .i64 ti, .slice ta tr.length tcap, .int .i64 co, .slice la li.length lcap, .slice ka ln.length kc] 25)) = w1 at *
  have c0 : w1.cell? ⟨w.heap.size, 0, none⟩ = some (.int .i64 ep) := HKR.out.cell 0
  have c1 : w1.cell? ⟨w.heap.size, 1, none⟩ = some (.int .i64 ti) := HKR.out.cell 1
  have c2 : w1.cell? ⟨w.heap.size, 2, none⟩ = some (.slice ta tr.length tcap) := HKR.out.cell 2
  have c3 : w1.cell? ⟨w.heap.size, 3, none⟩ = some (.int .i64 co) := HKR.out.cell 3
  have c4 : w1.cell? ⟨w.heap.size, 4, none⟩ = some (.slice la li.length lcap) := HKR.out.cell 4
  have c5 : w1.cell? ⟨w.heap.size, 5, none⟩ = some (.slice ka ln.length kc) := HKR.out.cell 5
  by_cases b0 : size < 1
  · have t0 : decide (size < 1) = true := decide_eq_true b0
    have HD := Lib.hid (show decide (canI size ep ti tr co li ln) = false by simp only [decide_eq_false_iff_not]; unfold canI; intro hc; omega)
    go_quiet (fail)
    have hbr := below_drewN HB1.out nq
    generalize w1.drewN nq = w2 at *
    go_wp2
    go_ret
    exact ⟨ret_bool HD.out.symm, hbr⟩
  have t0 : decide (size < 1) = false := decide_eq_false b0
  by_cases b1 : 32 < size
  · have t1 : decide (32 < size) = true := decide_eq_true b1
    have HD := Lib.hid (show decide (canI size ep ti tr co li ln) = false by simp only [decide_eq_false_iff_not]; unfold canI; intro hc; omega)
    go_quiet (fail)
    have hbr := below_drewN HB1.out nq
    generalize w1.drewN nq = w2 at *
    go_wp2
    go_ret
    exact ⟨ret_bool HD.out.symm, hbr⟩
  have t1 : decide (32 < size) = false := decide_eq_false b1
  by_cases b2 : ep < 0
  · have t2 : decide (ep < 0) = true := decide_eq_true b2
    have HD := Lib.hid (show decide (canI size ep ti tr co li ln) = false by simp only [decide_eq_false_iff_not]; unfold canI; intro hc; omega)
    go_quiet (fail)
    have hbr := below_drewN HB1.out nq
    generalize w1.drewN nq = w2 at *
    go_wp2
    go_ret
    exact ⟨ret_bool HD.out.symm, hbr⟩
  have t2 : decide (ep < 0) = false := decide_eq_false b2
  by_cases b3 : 255 < ep
  · have t3 : decide (255 < ep) = true := decide_eq_true b3
    have HD := Lib.hid (show decide (canI size ep ti tr co li ln) = false by simp only [decide_eq_false_iff_not]; unfold canI; intro hc; omega)
    go_quiet (fail)
    have hbr := below_drewN HB1.out nq
    generalize w1.drewN nq = w2 at *
    go_wp2
    go_ret
    exact ⟨ret_bool HD.out.symm, hbr⟩
  have t3 : decide (255 < ep) = false := decide_eq_false b3
  by_cases b4 : ti < 0
  · have t4 : decide (ti < 0) = true := decide_eq_true b4
    have HD := Lib.hid (show decide (canI size ep ti tr co li ln) = false by simp only [decide_eq_false_iff_not]; unfold canI; intro hc; omega)
    go_quiet (fail)
    have hbr := below_drewN HB1.out nq
    generalize w1.drewN nq = w2 at *
    go_wp2
    go_ret
    exact ⟨ret_bool HD.out.symm, hbr⟩
  have t4 : decide (ti < 0) = false := decide_eq_false b4
  by_cases b5 : 1125899906842624 < ti
  · have t5 : decide (1125899906842624 < ti) = true := decide_eq_true b5
    have HD := Lib.hid (show decide (canI size ep ti tr co li ln) = false by simp only [decide_eq_false_iff_not]; unfold canI; intro hc; omega)
    go_quiet (fail)
    have hbr := below_drewN HB1.out nq
    generalize w1.drewN nq = w2 at *
    go_wp2
    go_ret
    exact ⟨ret_bool HD.out.symm, hbr⟩
  have t5 : decide (1125899906842624 < ti) = false := decide_eq_false b5
  by_cases b6 : co < 0
  · have t6 : decide (co < 0) = true := decide_eq_true b6
    have HD := Lib.hid (show decide (canI size ep ti tr co li ln) = false by simp only [decide_eq_false_iff_not]; unfold canI; intro hc; omega)
    go_quiet (fail)
    have hbr := below_drewN HB1.out nq
    generalize w1.drewN nq = w2 at *
    go_wp2
    go_ret
    exact ⟨ret_bool HD.out.symm, hbr⟩
  have t6 : decide (co < 0) = false := decide_eq_false b6
  by_cases b7 : 32 < co
  · have t7 : decide (32 < co) = true := decide_eq_true b7
    have HD := Lib.hid (show decide (canI size ep ti tr co li ln) = false by simp only [decide_eq_false_iff_not]; unfold canI; intro hc; omega)
    go_quiet (fail)
    have hbr := below_drewN HB1.out nq
    generalize w1.drewN nq = w2 at *
    go_wp2
    go_ret
    exact ⟨ret_bool HD.out.symm, hbr⟩
  have t7 : decide (32 < co) = false := decide_eq_false b7
  by_cases e0 : (tr.length : Int) = size
  rotate_left
  · have u0 : ((tr.length : Int) != size) = true := by simpa using e0
    have HD := Lib.hid (show decide (canI size ep ti tr co li ln) = false by simp only [decide_eq_false_iff_not]; unfold canI; intro hc; exact e0 hc.2.2.2.2.1.1)
    go_quiet (fail)
    have hbr := below_drewN HB1.out nq
    generalize w1.drewN nq = w2 at *
    go_wp2
    go_ret
    exact ⟨ret_bool HD.out.symm, hbr⟩
  have u0 : ((tr.length : Int) != size) = false := by simpa using e0
  by_cases e1 : (li.length : Int) = size
  rotate_left
  · have u1 : ((li.length : Int) != size) = true := by simpa using e1
    have HD := Lib.hid (show decide (canI size ep ti tr co li ln) = false by simp only [decide_eq_false_iff_not]; unfold canI; intro hc; exact e1 hc.2.2.2.2.1.2)
    go_quiet (fail)
    have hbr := below_drewN HB1.out nq
    generalize w1.drewN nq = w2 at *
    go_wp2
    go_ret
    exact ⟨ret_bool HD.out.symm, hbr⟩
  have u1 : ((li.length : Int) != size) = false := by simpa using e1
  have HLK := Lib.hid (fun w2 => rlinks_q ep (by omega) (by omega) w2)
  have HC : Hid (canI size ep ti tr co li ln ↔ (ln.length = linksI ep ∧ ∀ x ∈ ln, (x.length : Int) = size)) := ⟨fun h => ⟨h.2.2.2.2.2.1, h.2.2.2.2.2.2⟩, fun h => ⟨⟨by omega, by omega⟩, ⟨by omega, by omega⟩, ⟨by omega, by omega⟩, ⟨by omega, by omega⟩, ⟨e0, e1⟩, h.1, h.2⟩⟩
  generalize hLK : linksI ep = LK at *
  have HLKE := Lib.hid hLK
  clear hLK
  by_cases e2 : ln.length = LK
  rotate_left
  · have u2 : ((ln.length : Int) != (LK : Int)) = true := by simp; omega
    have HD := Lib.hid (show decide (canI size ep ti tr co li ln) = false by simp only [decide_eq_false_iff_not]; exact fun hc => e2 (HC.out.1 hc).1)
    go_quiet (first | (go_at_call 87; refine Calls.quiet_of_same (HLK.out _)))
    have hbr := below_drewN HB1.out nq
    generalize w1.drewN nq = w2 at *
    go_wp2
    go_ret
    exact ⟨ret_bool HD.out.symm, hbr⟩
  have u2 : ((ln.length : Int) != (LK : Int)) = false := by simp [e2]
  have HC2 : Hid (canI size ep ti tr co li ln ↔ ∀ x ∈ ln, (x.length : Int) = size) := ⟨fun h => (HC.out.1 h).2, fun h => HC.out.2 ⟨e2, h⟩⟩
  have hlc : ln.length ≤ 9223372036854775807 := by have := HLEN.out; omega
  clear HC
  go_quiet (first | (go_at_call 87; refine Calls.quiet_of_same (HLK.out _)))
  have hbn := below_drewN HB1.out nq
  have c5 : (w1.drewN nq).cell? ⟨w.heap.size, 5, none⟩ = some (.slice ka ln.length kc) := HKR.out.cell 5
  have HK2 := Lib.hid (HK.out.below (below_drewN (Below.refl w1.heap.size w1) nq) (Nat.le_refl _))
  clear c0 c1 c2 c3 c4 t0 t1 t2 t3 t4 t5 t6 t7 b0 b1 b2 b3 b4 b5 b6 b7 u0 u1 u2 e0 e1 e2 HLK HLKE
  generalize w1.drewN nq = w2 at *
  go_wp2
  go_loopw [69] (fun i wr => ∃ k : Nat, k ≤ ln.length ∧ i = .int .i64 k ∧ Hid (∀ j, j < k → ((ln.getD j []).length : Int) = size) ∧ w2 = wr) (fun i _ => ln.length - (intOf i).toNat)
  case atStart => exact ⟨0, by omega, rfl, fun j hj => absurd hj (by omega), rfl⟩
  case round =>
    obtain ⟨k, hk, rfl, hall, rfl⟩ := hrel
    by_cases hlt : k < ln.length
    · obtain ⟨b, off, rfl, hb, u, hu, hs⟩ := HK2.out.at hlt
      have hkI : (k : Int) < (ln.length : Int) := by omega
      have hmem : ln.getD k [] ∈ ln := by rw [List.getD_eq_getElem?_getD, List.getElem?_eq_getElem hlt]; exact List.getElem_mem hlt
      generalize hP : ln.getD k [] = P at *
      have HP := Lib.hid hP
      clear hP
      obtain ⟨ua, uc, rfl, _, _⟩ := hs.shape
      simp only [List.length_map] at *
      by_cases hx : (P.length : Int) = size
      · have HX := Lib.hid hx
        have hx' : ((P.length : Int) != size) = false := by simpa using hx
        clear hs hx
        go_wp2
        go_roundw
        case rel =>
          refine ⟨k + 1, by omega, by go_num, fun j hj => ?_, by first | rfl | trivial⟩
          rcases Nat.lt_or_ge j k with h | h
          · exact hall.out j h
          · obtain rfl : j = k := by omega
            rw [HP.out]; exact HX.out
        case measure => simp [intOf]; omega
      · have hx' : ((P.length : Int) != size) = true := by simpa using hx
        have HD := Lib.hid (show decide (canI size ep ti tr co li ln) = false by
          simp only [decide_eq_false_iff_not]
          intro hq
          exact hx (HC2.out.1 hq _ hmem))
        clear hs hx
        go_wp2
        go_ret
        exact ⟨ret_bool HD.out.symm, hbn⟩
    · have hkI : ¬ (k : Int) < (ln.length : Int) := by omega
      have HD := Lib.hid (show decide (canI size ep ti tr co li ln) = true by
        simp only [decide_eq_true_eq]
        refine HC2.out.2 fun p hp => ?_
        obtain ⟨j, hj, rfl⟩ := List.mem_iff_getElem.1 hp
        have := hall.out j (by omega)
        rwa [List.getD_eq_getElem?_getD, List.getElem?_eq_getElem hj] at this)
      go_wp2
      go_ret
      exact ⟨ret_bool HD.out.symm, hbn⟩

end Go.Proofs.YtililoojjfcfgaaDoor

namespace Go.Proofs.YtililoojjfcfgaaDoor
open Go.RowKit
set_option linter.unusedVariables false

theorem ruint_e0 (n : Int) (w : World) (h0 : 0 ≤ n) (h1 : n ≤ 4611686018427387904) :
    Calls Tryd.prog 84 #[.slice none 0 0, .int .i64 n] w fun e w' => ∃ v', e = .returned v' ∧ Sl w' v' ((uintN n.toNat).map (Value.int .u8)) ∧ Below w.heap.size w w' :=
  (ruint_any (.slice none 0 0) [] n w (by simp) (Sl.nil _) h0 h1).mono fun e w' ⟨v', he, ho, hb⟩ => ⟨v', he, by simpa using Sl.of_owns ho, hb⟩

set_option maxRecDepth 100000 in
set_option maxHeartbeats 4000000 in
theorem renc_any (size ep ti : Int) (tr : List Int) (co : Int) (li : List Int) (ln : List (List Int)) (v : Value) (w : World) (hz0 : -9223372036854775808 ≤ size) (hz1 : size ≤ 9223372036854775807) (hr : RecV w v ep ti tr co li ln) :
    Calls Tryd.prog 40 #[.int .i64 size, v] w fun e w' => ∃ x, e = .returned (.tuple #[x, .int .i64 (codeE size ep ti tr co li ln)]) ∧ Sl w' x ((contE size ep ti tr co li ln).map (Value.int .u8)) ∧ Below w.heap.size w w' := by
  obtain ⟨vt, vl, vk, rfl, ht, hl, hk⟩ := hr
  obtain ⟨ta, tn, tc, rfl⟩ := ht.val
  obtain ⟨la, lc, lcc, rfl⟩ := hl.val
  obtain ⟨ka, kc, rfl, hkc, hkm⟩ := hk.shape
  have hb1 : Below w.heap.size w (w.alloc (.cells #[.int .i64 ep, .int .i64 ti, .slice ta tn tc, .int .i64 co, .slice la lc lcc, .slice ka ln.length kc] 25)) := (Below.refl _ _).alloc (Nat.le_refl _) _
  have kR := Blk.new w 25 #[.int .i64 ep, .int .i64 ti, .slice ta tn tc, .int .i64 co, .slice la lc lcc, .slice ka ln.length kc]
  have ht1 := ht.below hb1 (Nat.le_refl _)
  have hl1 := hl.below hb1 (Nat.le_refl _)
  have hk1 := hk.below hb1 (Nat.le_refl _)
  generalize hw1 : (w.alloc (.cells #[.int .i64 ep, .int .i64 ti, .slice ta tn tc, .int .i64 co, .slice la lc lcc, .slice ka ln.length kc] 25)) = w1 at *
  have HCN := Lib.hid (rcan_any size ep ti tr co li ln _ w1 hz0 hz1 ⟨_, _, _, rfl, ht1, hl1, hk1⟩)
  obtain ⟨c0, c1, c2, c3, c4, c5⟩ := rec6 kR
  by_cases hC : canI size ep ti tr co li ln
  · rw [decide_eq_true hC] at HCN
    have HE := Lib.hid (show codeE size ep ti tr co li ln = 0 ∧ contE size ep ti tr co li ln = encI ep ti tr co li ln from ⟨by unfold codeE; rw [if_pos hC], by unfold contE; rw [if_pos hC]⟩)
    have HLN := Lib.hid (encTo_len hC)
    have hep := hC.2.1
    have hti := hC.2.2.1
    have hco := hC.2.2.2.1
    have HHC := Lib.hid hC
    have HKK := Lib.hid hk
    clear ht hl hk hC
    go_enter Tryd.func40, Tryd.ntmps40
    go_wp2_with fail
    refine HCN.out.mono ?_
    rintro e w2 ⟨rfl, hb2⟩
    clear hw1 c0 c1 c2 c3 c4 c5
    have kR := kR.belowS hb2
    have ht1 := ht1.below hb2 (Nat.le_refl _)
    have hl1 := hl1.below hb2 (Nat.le_refl _)
    have hk1 := hk1.below hb2 (Nat.le_refl _)
    have hbr := hb1.trans (hb2.mono hb1.size)
    clear hb1 hb2 HCN
    have hS : World → Prop := fun _ => True
    have HGK := Lib.hid (fun w' (h : Below w2.heap.size w2 w') => rec6 (kR.belowS h))
    have HGT := Lib.hid (fun w' (h : Below w2.heap.size w2 w') => ht1.below h (Nat.le_refl _))
    have HGL := Lib.hid (fun w' (h : Below w2.heap.size w2 w') => hl1.below h (Nat.le_refl _))
    have hl0 := HLN.out 0
    have HL0 := Lib.hid hl0
    clear hl0 hS
    have HA3 := Lib.hid (show (uintN ep.toNat).length ≤ 1000 by have := HL0.out; unfold encTo at this; simp only [List.length_append] at this ⊢; omega)
    have HA4 := Lib.hid (show ((uintN ep.toNat ++ uintN ti.toNat)).length ≤ 1000 by have := HL0.out; unfold encTo at this; simp only [List.length_append] at this ⊢; omega)
    have HA5 := Lib.hid (show (((uintN ep.toNat ++ uintN ti.toNat) ++ bytesI tr)).length ≤ 1000 by have := HL0.out; unfold encTo at this; simp only [List.length_append] at this ⊢; omega)
    have HA6 := Lib.hid (show ((((uintN ep.toNat ++ uintN ti.toNat) ++ bytesI tr) ++ uintN co.toNat)).length ≤ 1000 by have := HL0.out; unfold encTo at this; simp only [List.length_append] at this ⊢; omega)
    have HXT := Lib.hid (show tr.length ≤ 1000 by have h1 := HHC.out.1; have h2 := HHC.out.2.2.2.2.1; omega)
    have HXL := Lib.hid (show li.length ≤ 1000 by have h1 := HHC.out.1; have h2 := HHC.out.2.2.2.2.1; omega)
    have HU1 := Lib.hid (fun w' (h : Below w2.heap.size w2 w') => ruint_e0 ep w' hep.1 (by omega))
    have HU2 := Lib.hid (fun v w' (hv : Sl w' v ((uintN ep.toNat).map (Value.int .u8))) => ruint_any v (uintN ep.toNat) ti w' (Nat.le_trans HA3.out (by decide)) hv hti.1 (by omega))
    have HU3 := Lib.hid (fun v w' (h : Below w2.heap.size w2 w') (hv : Sl w' v ((uintN ep.toNat ++ uintN ti.toNat).map (Value.int .u8))) => rbytes_any v (uintN ep.toNat ++ uintN ti.toNat) _ tr w' (by have := HA4.out; have := HXT.out; omega) hv (HGT.out w' h))
    have HU4 := Lib.hid (fun v w' (hv : Sl w' v (((uintN ep.toNat ++ uintN ti.toNat) ++ bytesI tr).map (Value.int .u8))) => ruint_any v ((uintN ep.toNat ++ uintN ti.toNat) ++ bytesI tr) co w' (Nat.le_trans HA5.out (by decide)) hv hco.1 (by omega))
    have HU5 := Lib.hid (fun v w' (h : Below w2.heap.size w2 w') (hv : Sl w' v ((((uintN ep.toNat ++ uintN ti.toNat) ++ bytesI tr) ++ uintN co.toNat).map (Value.int .u8))) => rbytes_any v (((uintN ep.toNat ++ uintN ti.toNat) ++ bytesI tr) ++ uintN co.toNat) _ li w' (by have := HA6.out; have := HXL.out; omega) hv (HGL.out w' h))
    have hG : Hid (w2.cell? ⟨w.heap.size, 0, none⟩ = some (.int .i64 ep) ∧ w2.cell? ⟨w.heap.size, 1, none⟩ = some (.int .i64 ti)) := ⟨(HGK.out _ (Below.refl _ _)).1, (HGK.out _ (Below.refl _ _)).2.1⟩
    clear kR ht1 hl1 hk1
    go_wp2
    go_region_held3 (fun w' => w'.cell? ⟨w.heap.size, 0, none⟩ = some (.int .i64 ep) ∧ w'.cell? ⟨w.heap.size, 1, none⟩ = some (.int .i64 ti)) (exact hG.out) (first | (go_at_call 84; refine (HU2.out v3 _ ho3).mono ?_; rintro e w4 ⟨v4, rfl, ho4, hb4⟩; have hb4 := below_trans2 hb3 hb4; have ho4 := Sl.of_owns ho4; have hG : Hid (w4.cell? ⟨w.heap.size, 0, none⟩ = some (.int .i64 ep) ∧ w4.cell? ⟨w.heap.size, 1, none⟩ = some (.int .i64 ti)) := ⟨(HGK.out _ hb4).1, (HGK.out _ hb4).2.1⟩) | (go_at_call 84; refine (HU1.out _ (by first | exact Below.refl _ _ | exact (Below.refl _ _).drew)).mono ?_; rintro e w3 ⟨v3, rfl, ho3, hb3⟩; have hb3 : Below w2.heap.size w2 w3 := ⟨hb3.os, hb3.tape, hb3.output, hb3.size, hb3.block⟩; have hG : Hid (w3.cell? ⟨w.heap.size, 0, none⟩ = some (.int .i64 ep) ∧ w3.cell? ⟨w.heap.size, 1, none⟩ = some (.int .i64 ti)) := ⟨(HGK.out _ hb3).1, (HGK.out _ hb3).2.1⟩))
    have hG : Hid (w4.cell? ⟨w.heap.size, 2, none⟩ = some (.slice ta tn tc) ∧ w4.cell? ⟨w.heap.size, 3, none⟩ = some (.int .i64 co)) := ⟨(HGK.out _ hb4).2.2.1, (HGK.out _ hb4).2.2.2.1⟩
    have HB4 := Lib.hid hb4
    have HO4 := Lib.hid ho4
    clear hb4 ho4 hb3 ho3
    go_wp2
    go_region_held3 (fun w' => w'.cell? ⟨w.heap.size, 2, none⟩ = some (.slice ta tn tc) ∧ w'.cell? ⟨w.heap.size, 3, none⟩ = some (.int .i64 co)) (exact hG.out) (first | (go_at_call 84; refine (HU4.out v5 _ ho5).mono ?_; rintro e w6 ⟨v6, rfl, ho6, hb6⟩; have hb6 := below_trans2 hb5 hb6; have ho6 := Sl.of_owns ho6; have hG : Hid (w6.cell? ⟨w.heap.size, 2, none⟩ = some (.slice ta tn tc) ∧ w6.cell? ⟨w.heap.size, 3, none⟩ = some (.int .i64 co)) := ⟨(HGK.out _ hb6).2.2.1, (HGK.out _ hb6).2.2.2.1⟩) | (go_at_call 78; refine (HU3.out v4 _ (by first | exact HB4.out | exact HB4.out.drew) (by first | exact HO4.out | exact HO4.out.below (Below.refl _ _).drew (Nat.le_refl _))).mono ?_; rintro e w5 ⟨v5, rfl, ho5, hb5⟩; have hb5 : Below w2.heap.size w2 w5 := (by first | exact below_trans2 HB4.out hb5 | exact below_trans2 HB4.out.drew hb5); have ho5 := Sl.of_owns ho5; have hG : Hid (w5.cell? ⟨w.heap.size, 2, none⟩ = some (.slice ta tn tc) ∧ w5.cell? ⟨w.heap.size, 3, none⟩ = some (.int .i64 co)) := ⟨(HGK.out _ hb5).2.2.1, (HGK.out _ hb5).2.2.2.1⟩))
    have c4 := (HGK.out _ hb6).2.2.2.2.1
    clear hb5 ho5 HO4 HB4
    have HB6 := Lib.hid hb6
    have HO6 := Lib.hid ho6
    clear hb6 ho6
    go_wp2_with fail
    refine (HU5.out v6 _ HB6.out HO6.out).mono ?_
    rintro e w7 ⟨b7, rfl, ho7, hb7⟩
    have hs7 : Sl w7 b7 (((((uintN ep.toNat ++ uintN ti.toNat) ++ bytesI tr) ++ uintN co.toNat) ++ bytesI li).map (Value.int .u8)) := by exact Sl.of_owns ho7
    have hb7 := below_trans2 HB6.out hb7
    have hbr := hbr.trans (hb7.mono hbr.size)
    have c5 := (HGK.out _ hb7).2.2.2.2.2
    clear ho7 hb7 HO6 HB6 c4
    have hs7' : Sl w7 b7 ((encTo ep ti tr co li ln 0).map (Value.int .u8)) := by
      have e : encTo ep ti tr co li ln 0 = ((((uintN ep.toNat ++ uintN ti.toNat) ++ bytesI tr) ++ uintN co.toNat) ++ bytesI li) := by unfold encTo; simp
      rw [e]; exact hs7
    clear hs7
    go_wp2
    go_loopw [6, 33] (fun b i wr => ∃ (k : Nat) (bv : Value), bv = b ∧ k ≤ ln.length ∧ i = .int .i64 k ∧ Sl wr bv ((encTo ep ti tr co li ln k).map (Value.int .u8)) ∧ Below w.heap.size w wr) (fun _ i _ => ln.length - (intOf i).toNat)
    case atStart => exact ⟨0, _, rfl, by omega, rfl, hs7', hbr⟩
    case round =>
      clear hs7' hbr
      obtain ⟨k, bv, rfl, hk, rfl, hsv, hbr⟩ := hrel
      obtain ⟨ba, bn, bc, rfl⟩ := hsv.val
      by_cases hlt : k < ln.length
      · have hkI : (k : Int) < (ln.length : Int) := by omega
        obtain ⟨b, off, rfl, hbl, u, hu, hsu⟩ := (HKK.out.below hbr (Nat.le_refl _)).at hlt
        have HST := Lib.hid (encTo_succ ep ti tr co li ln k hlt)
        have HLP := Lib.hid (show (ln.getD k []).length ≤ 1000 by
          rw [List.getD_eq_getElem?_getD, List.getElem?_eq_getElem hlt]
          have h1 := HHC.out.1
          have h2 := HHC.out.2.2.2.2.2.2 _ (List.getElem_mem hlt)
          simp only [Option.getD_some]; omega)
        have HLT := Lib.hid (HLN.out k)
        generalize ln.getD k [] = P at *
        obtain ⟨ua, un, uc, rfl⟩ := hsu.val
        have HU := Lib.hid (rbytes_any (.slice ba bn bc) (encTo ep ti tr co li ln k) (.slice ua un uc) P wr (by have h1 := HLT.out; have h2 := HLP.out; omega) hsv hsu)
        clear hsv hsu
        go_wp2_with fail
        refine HU.out.mono ?_
        rintro e w9 ⟨b9, rfl, ho9, hb9⟩
        have hs9 := Sl.of_owns ho9
        have hbr := hbr.trans (hb9.mono hbr.size)
        clear ho9 hb9 HU
        go_wp2
        exact ⟨⟨k + 1, b9, rfl, by omega, by go_num, by rw [HST.out]; exact hs9, hbr⟩, by simp [intOf]; omega⟩
      · obtain rfl : k = ln.length := by omega
        have hkI : ¬ (ln.length : Int) < (ln.length : Int) := by omega
        rw [encTo_all] at hsv
        go_wp2
        go_ret2
        rw [HE.out.1, HE.out.2]
        exact ⟨_, rfl, hsv, hbr⟩
  · rw [decide_eq_false hC] at HCN
    have HE := Lib.hid (show codeE size ep ti tr co li ln = 1 ∧ contE size ep ti tr co li ln = [] from ⟨by unfold codeE; rw [if_neg hC], by unfold contE; rw [if_neg hC]⟩)
    clear ht hl hk hC ht1 hl1 hk1
    go_enter Tryd.func40, Tryd.ntmps40
    go_wp2_with fail
    refine HCN.out.mono ?_
    rintro e w2 ⟨rfl, hb2⟩
    clear hw1
    have hbr := hb1.trans (hb2.mono hb1.size)
    go_wp2
    go_ret2
    rw [HE.out.1, HE.out.2]
    exact ⟨_, rfl, Sl.nil _, hbr⟩

end Go.Proofs.YtililoojjfcfgaaDoor

namespace Go.Proofs.YtililoojjfcfgaaDoor
open Go.RowKit
set_option linter.unusedVariables false

theorem RRd.belowR {w w' : World} {g : Nat} {bs : List Int} {e : Int} (hr : RRd w g bs e) (hb : Below w.heap.size w w') : RRd w' g bs e := by
  obtain ⟨x, h1, h2⟩ := hr
  exact ⟨x, h1.belowS hb, h2.below hb (Nat.le_refl _)⟩
theorem RRd.slR {w w' : World} {g : Nat} {bs : List Int} {e : Int} (hr : RRd w g bs e) (hg : w.grownBy w' (some g)) {u : Value} {zs : List Int} (hu : Sl w u (zs.map (Value.int .u8))) : Sl w' u (zs.map (Value.int .u8)) := by
  obtain ⟨x, h1, h2⟩ := hr
  exact hu.keepG h1 (rrd_noB x h2.val e) hg
theorem RRd.keepT {w w' : World} {base : Nat} {v : Value} {pss : List (List Int)} (hO : OSls w base v pss) {g : Nat} {bs : List Int} {e : Int} (hr : RRd w g bs e) (hg : w.grownBy w' v.ownBlock) : RRd w' g bs e := by
  obtain ⟨vs, h1, h2⟩ := hO
  obtain ⟨x, k, hx⟩ := hr
  exact ⟨x, k.grown hg (fun e => own_blk_ne h1.1 k (by decide) e.symm), hx.keepK h1 hg⟩

structure RDecS (W w : World) (g gr : Nat) (e1 e2 e4 : Int) (tv lv ov : Value) (tb lb : List Int) (pss : List (List Int)) (rest : List Int) (er : Int) : Prop where
  kR : Blk w gr 25 #[.int .i64 e1, .int .i64 e2, tv, .int .i64 e4, lv, ov]
  hO : OSls w W.heap.size ov pss
  hr : RRd w g rest er
  ht : Sl w tv (tb.map (Value.int .u8))
  hl : Sl w lv (lb.map (Value.int .u8))
  kZ : Blk w W.heap.size 25 #[.int .i64 0, .int .i64 0, .slice none 0 0, .int .i64 0, .slice none 0 0, .slice none 0 0]
  hb : Below W.heap.size W w
  h1 : g ≠ gr
  h2 : W.heap.size < g
  h3 : W.heap.size < gr

section
variable {W w w1 : World} {g gr : Nat} {e1 e2 e4 : Int} {tv lv ov : Value} {tb lb : List Int} {pss : List (List Int)} {rest : List Int} {er : Int}
theorem RDecS.below (h : RDecS W w g gr e1 e2 e4 tv lv ov tb lb pss rest er) (hb : Below w.heap.size w w1) : RDecS W w1 g gr e1 e2 e4 tv lv ov tb lb pss rest er :=
  ⟨h.kR.belowS hb, h.hO.below hb, h.hr.belowR hb, h.ht.below hb (Nat.le_refl _), h.hl.below hb (Nat.le_refl _), h.kZ.belowS hb, below_trans2 h.hb hb, h.h1, h.h2, h.h3⟩
theorem OSls.keepRR {base : Nat} {v : Value} (h : OSls w base v pss) {bs : List Int} {e : Int} (hr : RRd w g bs e) (hg : w.grownBy w1 (some g)) : OSls w1 base v pss := by
  obtain ⟨x, k, hx⟩ := hr
  exact h.keepGk k (by decide) (rrd_noB x hx.val e) hg
theorem RDecS.read (h : RDecS W w g gr e1 e2 e4 tv lv ov tb lb pss rest er) {rest' : List Int} {er' : Int} (hR : RRdAt w w1 g rest' er') : RDecS W w1 g gr e1 e2 e4 tv lv ov tb lb pss rest' er' :=
  ⟨h.kR.grown hR.2 (by intro e; cases e; exact h.h1 rfl), h.hO.keepRR h.hr hR.2, hR.1, h.hr.slR hR.2 h.ht, h.hr.slR hR.2 h.hl, h.kZ.grown hR.2 (by intro e; cases e; exact absurd h.h2 (Nat.lt_irrefl _)), below_of_only h.hb hR.2 (Nat.le_of_lt h.h2) h.hb.size, h.h1, h.h2, h.h3⟩
theorem RDecS.noB (h : RDecS W w g gr e1 e2 e4 tv lv ov tb lb pss rest er) : ∀ (j : Nat) (n : Int), (#[.int .i64 e1, .int .i64 e2, tv, .int .i64 e4, lv, ov] : Array Value)[j]? ≠ some (.int .u8 n) := by
  obtain ⟨ta, tn, tc, e1'⟩ := h.ht.val
  obtain ⟨la, ln, lc, e2'⟩ := h.hl.val
  obtain ⟨oa, oc, e3'⟩ := h.hO.val
  exact rec_noB ⟨_, _, _, e1'⟩ ⟨_, _, _, e2'⟩ ⟨_, _, _, e3'⟩
theorem set_only (w : World) (g i : Nat) (u : Value) : w.grownBy (w.setCell ⟨g, i, none⟩ u) (some g) := only_setCell (p := ⟨g, i, none⟩) (World.grownBy.refl _ _) (.inl rfl) _
theorem RDecS.keep (h : RDecS W w g gr e1 e2 e4 tv lv ov tb lb pss rest er) (hg : w.grownBy w1 (some gr)) :
    OSls w1 W.heap.size ov pss ∧ RRd w1 g rest er ∧ Sl w1 tv (tb.map (Value.int .u8)) ∧ Sl w1 lv (lb.map (Value.int .u8)) ∧ Blk w1 W.heap.size 25 #[.int .i64 0, .int .i64 0, .slice none 0 0, .int .i64 0, .slice none 0 0, .slice none 0 0] ∧ Below W.heap.size W w1 := by
  obtain ⟨x, r1, r2⟩ := h.hr
  exact ⟨h.hO.keepGk h.kR (by decide) h.noB hg, ⟨x, r1.grown hg (by intro e; cases e; exact h.h1 rfl), r2.keepG h.kR h.noB hg⟩, h.ht.keepG h.kR h.noB hg, h.hl.keepG h.kR h.noB hg, h.kZ.grown hg (by intro e; cases e; exact absurd h.h3 (Nat.lt_irrefl _)), below_of_only h.hb hg (Nat.le_of_lt h.h3) h.hb.size⟩
theorem RDecS.set1 (h : RDecS W w g gr e1 e2 e4 tv lv ov tb lb pss rest er) (u : Int) : RDecS W (w.setCell ⟨gr, 1, none⟩ (.int .i64 u)) g gr e1 u e4 tv lv ov tb lb pss rest er := by
  obtain ⟨k1, k2, k3, k4, k5, k6⟩ := h.keep (set_only w gr 1 (.int .i64 u))
  exact ⟨h.kR.set_ 1 _, k1, k2, k3, k4, k5, k6, h.h1, h.h2, h.h3⟩
theorem RDecS.set2 (h : RDecS W w g gr e1 e2 e4 tv lv ov tb lb pss rest er) {u : Value} {zs : List Int} (hu : Sl w u (zs.map (Value.int .u8))) : RDecS W (w.setCell ⟨gr, 2, none⟩ u) g gr e1 e2 e4 u lv ov zs lb pss rest er := by
  obtain ⟨k1, k2, k3, k4, k5, k6⟩ := h.keep (set_only w gr 2 u)
  exact ⟨h.kR.set_ 2 _, k1, k2, hu.keepG h.kR h.noB (set_only w gr 2 u), k4, k5, k6, h.h1, h.h2, h.h3⟩
theorem RDecS.set3 (h : RDecS W w g gr e1 e2 e4 tv lv ov tb lb pss rest er) (u : Int) : RDecS W (w.setCell ⟨gr, 3, none⟩ (.int .i64 u)) g gr e1 e2 u tv lv ov tb lb pss rest er := by
  obtain ⟨k1, k2, k3, k4, k5, k6⟩ := h.keep (set_only w gr 3 (.int .i64 u))
  exact ⟨h.kR.set_ 3 _, k1, k2, k3, k4, k5, k6, h.h1, h.h2, h.h3⟩
theorem RDecS.set4 (h : RDecS W w g gr e1 e2 e4 tv lv ov tb lb pss rest er) {u : Value} {zs : List Int} (hu : Sl w u (zs.map (Value.int .u8))) : RDecS W (w.setCell ⟨gr, 4, none⟩ u) g gr e1 e2 e4 tv u ov tb zs pss rest er := by
  obtain ⟨k1, k2, k3, k4, k5, k6⟩ := h.keep (set_only w gr 4 u)
  exact ⟨h.kR.set_ 4 _, k1, k2, k3, hu.keepG h.kR h.noB (set_only w gr 4 u), k5, k6, h.h1, h.h2, h.h3⟩
theorem RDecS.app (h : RDecS W w g gr e1 e2 e4 tv lv ov tb lb pss rest er) {ov' : Value} {pss' : List (List Int)} (hO : OSls w1 W.heap.size ov' pss') (hg : w.grownBy w1 ov.ownBlock) :
    w1.cell? ⟨gr, 5, none⟩ = some ov ∧ w1.frozen? ⟨gr, 5, none⟩ = false ∧ RDecS W (w1.setCell ⟨gr, 5, none⟩ ov') g gr e1 e2 e4 tv lv ov' tb lb pss' rest er := by
  have kR := h.kR.keepO h.hO hg (by decide)
  have hr := RRd.keepT h.hO h.hr hg
  have kZ := h.kZ.keepO h.hO hg (by decide)
  have hOO := h.hO
  obtain ⟨vs, o1, o2⟩ := hOO
  have ht := h.ht.keepK o1 hg
  have hl := h.hl.keepK o1 hg
  have hb : Below W.heap.size W w1 := h.hb.grown hg h.hb.size (fun k hk => (o1.1.lt k hk).1)
  have hNB := h.noB
  have hgS := set_only w1 gr 5 ov'
  obtain ⟨x, r1, r2⟩ := hr
  refine ⟨kR.cell 5, kR.frozen 5, kR.set_ 5 _, hO.keepGk kR (by decide) hNB hgS, ⟨x, r1.grown hgS (by intro e; cases e; exact h.h1 rfl), r2.keepG kR hNB hgS⟩, ht.keepG kR hNB hgS, hl.keepG kR hNB hgS, kZ.grown hgS (by intro e; cases e; exact absurd h.h3 (Nat.lt_irrefl _)), below_of_only hb hgS (Nat.le_of_lt h.h3) hb.size, h.h1, h.h2, h.h3⟩
theorem RDecS.stored (h : RDecS W w g gr e1 e2 e4 tv lv ov tb lb pss rest er) (hg : w.grownBy w1 (some W.heap.size)) :
    RecV w1 (.agg #[.int .i64 e1, .int .i64 e2, tv, .int .i64 e4, lv, ov]) e1 e2 tb e4 lb pss ∧ Below W.heap.size W w1 := by
  have hNB := rec_noB (e1 := 0) (e2 := 0) (e4 := 0) (tv := .slice none 0 0) (lv := .slice none 0 0) (ov := .slice none 0 0) ⟨_, _, _, rfl⟩ ⟨_, _, _, rfl⟩ ⟨_, _, _, rfl⟩
  exact ⟨⟨tv, lv, ov, rfl, h.ht.keepG h.kZ hNB hg, h.hl.keepG h.kZ hNB hg, (h.hO.keepGk h.kZ (by decide) hNB hg).sls⟩, below_of_only h.hb hg (Nat.le_refl _) h.hb.size⟩
end

theorem rrend_any (g : Nat) (bs : List Int) (er : Int) (w : World) (h : RRd w g bs er) :
    Calls Tryd.prog 88 #[.pointer (some ⟨g, 0, none⟩)] w fun e w' => e = .returned (.int .i64 (endI er bs)) ∧ w = w' := by
  obtain ⟨a, c, hk, hs⟩ := h.val
  have q0 : w.cell? ⟨g, 0, none⟩ = some (.slice a bs.length c) := hk.cell 0
  have q1 : w.cell? ⟨g, 1, none⟩ = some (.int .i64 er) := hk.cell 1
  clear h hk hs
  by_cases he : er = 0
  · have hn : (er == 0) = true := by simp [he]
    by_cases hb : bs.length = 0
    · have HD := Lib.hid (show endI er bs = er by unfold endI; rw [if_pos he, if_pos (List.length_eq_zero_iff.1 hb), he])
      have hI : ¬ (0 : Int) < (bs.length : Int) := by omega
      have hI2 : ¬ 0 < bs.length := by omega
      clear hb he
      go_enter Tryd.func88, Tryd.ntmps88
      go_wp2
      go_ret
      exact ⟨ret_int HD.out.symm, rfl⟩
    · have HD := Lib.hid (show endI er bs = 5 by unfold endI; rw [if_pos he, if_neg (fun h => hb (by rw [h]; rfl))])
      have hI : 0 < bs.length := by omega
      clear hb he
      go_enter Tryd.func88, Tryd.ntmps88
      go_wp2
      go_ret
      exact ⟨ret_int HD.out.symm, rfl⟩
  · have HD := Lib.hid (show endI er bs = er by unfold endI; rw [if_neg he])
    have hn : (er == 0) = false := by simp [he]
    clear he
    go_enter Tryd.func88, Tryd.ntmps88
    go_wp2
    go_ret
    exact ⟨ret_int HD.out.symm, rfl⟩

end Go.Proofs.YtililoojjfcfgaaDoor

namespace Go.Proofs.YtililoojjfcfgaaDoor
open Go.RowKit
set_option linter.unusedVariables false

def rdecC (size : Int) (bs : List Int) : Int := if refOk size bs then 0 else 5
def RDecRes (w w' : World) (size : Int) (bs : List Int) (x : Value) : Prop :=
  (refOk size bs → RecV w' x (d1 bs).1 (d2 bs).1 (d3 32 bs).1 (d4 32 bs).1 (d5 32 bs).1 (d6 32 bs).1) ∧ (¬ refOk size bs → x = .agg #[.int .i64 0, .int .i64 0, .slice none 0 0, .int .i64 0, .slice none 0 0, .slice none 0 0]) ∧ Below w.heap.size w w'
theorem refOk_iff (size : Int) (bs : List Int) : refOk size bs ↔ (endI (d6 32 bs).2.2 (d6 32 bs).2.1 = 0 ∧ canI size (d1 bs).1 (d2 bs).1 (d3 32 bs).1 (d4 32 bs).1 (d5 32 bs).1 (d6 32 bs).1) := by
  unfold refOk endI
  constructor
  · rintro ⟨h1, h2, h3⟩
    rw [if_pos h1, if_pos h2]
    exact ⟨rfl, h3⟩
  · rintro ⟨h1, h3⟩
    by_cases he : (d6 32 bs).2.2 = 0
    · rw [if_pos he] at h1
      by_cases hr : (d6 32 bs).2.1 = []
      · exact ⟨he, hr, h3⟩
      · rw [if_neg hr] at h1; cases h1
    · rw [if_neg he] at h1; exact absurd h1 he

set_option maxRecDepth 100000 in
set_option maxHeartbeats 4000000 in
theorem rdec_any (size : Int) (v : Value) (bs : List Int) (w : World) (hz0 : -9223372036854775808 ≤ size) (hz1 : size ≤ 9223372036854775807) (hl : bs.length ≤ 140737488351232) (hB : IsB bs) (hs : Sl w v (bs.map (Value.int .u8))) :
    Calls Tryd.prog 41 #[.int .i64 size, v] w fun e w' => ∃ x, e = .returned (.tuple #[x, .int .i64 (rdecC size bs)]) ∧ RDecRes w w' size bs x := by
  obtain ⟨a, cap, rfl, hc, hm⟩ := hs.shape
  rw [List.length_map] at *
  have hb1 : Below w.heap.size w (w.alloc (.cells #[.int .i64 0, .int .i64 0, .slice none 0 0, .int .i64 0, .slice none 0 0, .slice none 0 0] 25)) := (Below.refl _ _).alloc (Nat.le_refl _) _
  have kZ := Blk.new w 25 #[.int .i64 0, .int .i64 0, .slice none 0 0, .int .i64 0, .slice none 0 0, .slice none 0 0]
  have hs1 := hs.below hb1 (Nat.le_refl _)
  have hsz1 : (w.alloc (.cells #[.int .i64 0, .int .i64 0, .slice none 0 0, .int .i64 0, .slice none 0 0, .slice none 0 0] 25)).heap.size = w.heap.size + 1 := by simp
  have HLL := Lib.hid hl
  have HB := Lib.hid hB
  obtain ⟨l1, l2, l3, l4, l5, l6⟩ := d_left 32 bs
  have HL1 := Lib.hid l1
  have HL2 := Lib.hid l2
  have HL3 := Lib.hid l3
  have HL4 := Lib.hid l4
  have HL5 := Lib.hid l5
  have HL6 := Lib.hid l6
  clear hs hl hB l1 l2 l3 l4 l5 l6
  go_enter Tryd.func41, Tryd.ntmps41
  generalize hw1 : (w.alloc (.cells #[.int .i64 0, .int .i64 0, .slice none 0 0, .int .i64 0, .slice none 0 0, .slice none 0 0] 25)) = w1 at *
  have HSZ := Lib.hid hsz1
  have HW1 := Lib.hid hw1
  clear hsz1
  have hbE : Below w1.heap.size w1 (w1.alloc (.cells #[] 5)) := (Below.refl _ _).alloc (Nat.le_refl _) _
  have hown0 : (w1.alloc (.cells #[] 5)).ownsRow w1.heap.size 5 1 (.slice (some ⟨w1.heap.size, 0, none⟩) 0 0) 0 [] :=
    World.ownsRow_lit (base := w1.heap.size) (e := 5) (size := 1) w1 #[] 0 (Nat.le_refl _) (by simp [maxLen]) (by simp)
  have hsE := hs1.below hbE (Nat.le_refl _)
  obtain ⟨i0, hi, hz0', hz1', hz2'⟩ := info_parts info8c
  go_wp2_with (at_builtin; refine wpList_append_sl rfl _ _ 22 rfl w1.heap.size 5 i0 (.int .u8 0) 1 Tryd.underlying22 hi hz0' hz1' hz2' rfl _ 0 [] rfl hown0 (.slice a bs.length cap) (bs.map (Value.int .u8)) rfl hsE (one8 _) (by have := HLL.out; rw [List.length_map]; unfold maxLen; omega) (by have := HLL.out; rw [List.length_map]; omega) (by simp) ?_)
  intro xv w2 hown2 hg2
  have hb2 := below_grown hbE hown0 (Nat.le_refl _) (by simp) hg2
  have hxv : Sl w2 xv (bs.map (Value.int .u8)) := by simpa using Sl.of_owns hown2
  obtain ⟨xa, xn, xc, rfl⟩ := hxv.val
  have hbr := hb1.trans (hb2.mono hb1.size)
  have kZ := kZ.belowS hb2
  have hgP : Hid (w.heap.size < w2.heap.size) := by have := hb2.size; have := HSZ.out; show _ < _; omega
  have hbR : Below w2.heap.size w2 (w2.alloc (.cells #[.slice xa xn xc, .int .i64 0] 129)) := (Below.refl _ _).alloc (Nat.le_refl _) _
  have hr3 : RRd (w2.alloc (.cells #[.slice xa xn xc, .int .i64 0] 129)) w2.heap.size bs 0 := ⟨_, Blk.new w2 _ _, hxv.below hbR (Nat.le_refl _)⟩
  have kZ := kZ.belowS hbR
  have hbr := hbr.trans (hbR.mono hbr.size)
  have hgl3 : w2.heap.size < (w2.alloc (.cells #[.slice xa xn xc, .int .i64 0] 129)).heap.size := by simp
  clear hown2 hg2 hbE hown0 hsE hb1 hb2 hs1 hxv hbR hw1
  have HU := Lib.hid (refRuint_any w2.heap.size bs 0 255 _ HB.out HLL.out hr3)
  have HU : Hid (Calls Tryd.prog 85 #[.pointer (some ⟨w2.heap.size, 0, none⟩), .int .i64 255] (w2.alloc (.cells #[.slice xa xn xc, .int .i64 0] 129)) fun e w' => e = .returned (.int .i64 (d1 bs).1) ∧ RRdAt (w2.alloc (.cells #[.slice xa xn xc, .int .i64 0] 129)) w' w2.heap.size (d1 bs).2.1 (d1 bs).2.2) := HU
  clear hr3
  go_wp2_with fail
  refine HU.out.mono ?_
  generalize (w2.alloc (.cells #[.slice xa xn xc, .int .i64 0] 129)) = w3 at *
  generalize w2.heap.size = g at *
  rintro e w4 ⟨rfl, hr4, hg4⟩
  have kZ := kZ.grown hg4 (by intro e; cases e; exact absurd hgP.out (Nat.lt_irrefl _))
  have hbr := below_of_only hbr hg4 (Nat.le_of_lt hgP.out) hbr.size
  have hgl4 : g < w4.heap.size := Nat.lt_of_lt_of_le hgl3 hg4.size
  have hbG : Below w4.heap.size w4 (w4.alloc (.cells #[.int .i64 (d1 bs).1, .int .i64 0, .slice none 0 0, .int .i64 0, .slice none 0 0, .slice none 0 0] 25)) := (Below.refl _ _).alloc (Nat.le_refl _) _
  have HD0 := Lib.hid (show RDecS w (w4.alloc (.cells #[.int .i64 (d1 bs).1, .int .i64 0, .slice none 0 0, .int .i64 0, .slice none 0 0, .slice none 0 0] 25)) g w4.heap.size (d1 bs).1 0 0 (.slice none 0 0) (.slice none 0 0) (.slice none 0 0) [] [] [] (d1 bs).2.1 (d1 bs).2.2 from
    ⟨Blk.new w4 _ _, OSls.nil _ _, hr4.belowR hbG, Sl.nil _, Sl.nil _, kZ.belowS hbG, below_trans2 hbr hbG, by omega, hgP.out, kZ.lt⟩)
  have HU := Lib.hid (refRuint_any g (d1 bs).2.1 (d1 bs).2.2 1125899906842624 _ (suf_isB HL1.out HB.out) (Nat.le_trans (suf_len HL1.out) HLL.out) HD0.out.hr)
  have HU : Hid (Calls Tryd.prog 85 #[.pointer (some ⟨g, 0, none⟩), .int .i64 1125899906842624] (w4.alloc (.cells #[.int .i64 (d1 bs).1, .int .i64 0, .slice none 0 0, .int .i64 0, .slice none 0 0, .slice none 0 0] 25)) fun e w' => e = .returned (.int .i64 (d2 bs).1) ∧ RRdAt (w4.alloc (.cells #[.int .i64 (d1 bs).1, .int .i64 0, .slice none 0 0, .int .i64 0, .slice none 0 0, .slice none 0 0] 25)) w' g (d2 bs).2.1 (d2 bs).2.2) := HU
  clear hr4 hg4 kZ hbr hbG hgl3 hgl4
  go_wp2_with fail
  refine HU.out.mono ?_
  rintro e w6 ⟨rfl, hr6⟩
  have HDa := Lib.hid (HD0.out.read hr6)
  clear HU HD0 hr6
  have q1 : w6.cell? ⟨w4.heap.size, 1, none⟩ = some (.int .i64 0) := HDa.out.kR.cell 1
  have f1 := HDa.out.kR.frozen 1
  have HDb := Lib.hid (HDa.out.set1 (d2 bs).1)
  have HU := Lib.hid (refRbytes_any g (d2 bs).2.1 (d2 bs).2.2 32 _ (suf_isB HL2.out HB.out) (Nat.le_trans (suf_len HL2.out) HLL.out) HDb.out.hr)
  go_wp2_with fail
  generalize (w6.setCell ⟨w4.heap.size, 1, none⟩ (.int .i64 (d2 bs).1)) = w7 at *
  refine HU.out.mono ?_
  rintro e w8 ⟨x, rfl, hx, hr8⟩
  have hx : Sl w8 x ((d3 32 bs).1.map (Value.int .u8)) := hx
  have hr8 : RRdAt w7 w8 g (d3 32 bs).2.1 (d3 32 bs).2.2 := hr8
  obtain ⟨ta, tn, tc, rfl⟩ := hx.val
  have HDc := Lib.hid (HDb.out.read hr8)
  clear HU HDa HDb hr8 q1 f1
  have q1 : w8.cell? ⟨w4.heap.size, 2, none⟩ = some (.slice none 0 0) := HDc.out.kR.cell 2
  have f1 := HDc.out.kR.frozen 2
  have HDd := Lib.hid (HDc.out.set2 hx)
  have HU := Lib.hid (refRuint_any g (d3 32 bs).2.1 (d3 32 bs).2.2 32 _ (suf_isB HL3.out HB.out) (Nat.le_trans (suf_len HL3.out) HLL.out) HDd.out.hr)
  clear hx
  go_wp2_with fail
  generalize (w8.setCell ⟨w4.heap.size, 2, none⟩ (.slice ta tn tc)) = w9 at *
  refine HU.out.mono ?_
  rintro e wa ⟨rfl, hra⟩
  have hra : RRdAt w9 wa g (d4 32 bs).2.1 (d4 32 bs).2.2 := hra
  have hE4 : (uI 32 (d3 32 bs).2.1 (d3 32 bs).2.2).1 = (d4 32 bs).1 := rfl
  rw [hE4]
  have HDe := Lib.hid (HDd.out.read hra)
  clear HU HDc HDd hra q1 f1 hE4
  have q1 : wa.cell? ⟨w4.heap.size, 3, none⟩ = some (.int .i64 0) := HDe.out.kR.cell 3
  have f1 := HDe.out.kR.frozen 3
  have HDf := Lib.hid (HDe.out.set3 (d4 32 bs).1)
  have HU := Lib.hid (refRbytes_any g (d4 32 bs).2.1 (d4 32 bs).2.2 32 _ (suf_isB HL4.out HB.out) (Nat.le_trans (suf_len HL4.out) HLL.out) HDf.out.hr)
  go_wp2_with fail
  generalize (wa.setCell ⟨w4.heap.size, 3, none⟩ (.int .i64 (d4 32 bs).1)) = wb at *
  refine HU.out.mono ?_
  rintro e wc ⟨x, rfl, hx, hrc⟩
  have hx : Sl wc x ((d5 32 bs).1.map (Value.int .u8)) := hx
  have hrc : RRdAt wb wc g (d5 32 bs).2.1 (d5 32 bs).2.2 := hrc
  obtain ⟨la, lcn, lc, rfl⟩ := hx.val
  have HDg := Lib.hid (HDf.out.read hrc)
  clear HU HDe HDf hrc q1 f1
  have q1 : wc.cell? ⟨w4.heap.size, 4, none⟩ = some (.slice none 0 0) := HDg.out.kR.cell 4
  have f1 := HDg.out.kR.frozen 4
  have HDD := Lib.hid (HDg.out.set4 hx)
  have c0 : (wc.setCell ⟨w4.heap.size, 4, none⟩ (.slice la lcn lc)).cell? ⟨w4.heap.size, 0, none⟩ = some (.int .i64 (d1 bs).1) := HDD.out.kR.cell 0
  have HV := Lib.hid (uI_val 255 bs 0 HB.out)
  have hv0 : 0 ≤ (d1 bs).1 := HV.out.1
  have hv1 : (d1 bs).1 ≤ 255 := by
    by_cases he : (uI 255 bs 0).2.2 = 0
    · exact HV.out.2.2.1 he
    · have := HV.out.2.2.2 he; show (uI 255 bs 0).1 ≤ 255; omega
  have HK := Lib.hid (fun w' => rlinks_any (d1 bs).1 hv0 hv1 w')
  have HN := Lib.hid (links_le (d1 bs).1)
  have HD6 := Lib.hid (show d6 32 bs = lkN 32 (linksI (d1 bs).1) ([], (d5 32 bs).2.1, (d5 32 bs).2.2) from rfl)
  have HL6 := Lib.hid HL6.out
  have hN9 : linksI (d1 bs).1 ≤ 9 := HN.out
  clear hv0 hv1 HV hx HDg
  generalize hLN : linksI (d1 bs).1 = N at *
  generalize hgr : w4.heap.size = gr at *
  clear hLN hgr
  go_wp2_with fail
  refine (HK.out _).mono ?_
  generalize (wc.setCell ⟨gr, 4, none⟩ (.slice la lcn lc)) = wd at *
  rintro e we ⟨rfl, rfl⟩
  clear q1 f1
  go_wp2
  go_loopw [31] (fun i wr => ∃ (k : Nat) (ov : Value), i = .int .i64 k ∧ k ≤ N ∧ RDecS w wr g gr (d1 bs).1 (d2 bs).1 (d4 32 bs).1 (.slice ta tn tc) (.slice la lcn lc) ov (d3 32 bs).1 (d5 32 bs).1 (lkN 32 k ([], (d5 32 bs).2.1, (d5 32 bs).2.2)).1 (lkN 32 k ([], (d5 32 bs).2.1, (d5 32 bs).2.2)).2.1 (lkN 32 k ([], (d5 32 bs).2.1, (d5 32 bs).2.2)).2.2) (fun i _ => N - (intOf i).toNat)
  case atStart => exact ⟨0, _, rfl, by omega, HDD.out⟩
  case round =>
    obtain ⟨k, ov, rfl, hk, hD⟩ := hrel
    clear HDD HK c0
    by_cases hlt : k < N
    · have hkI : (k : Int) < (N : Int) := by omega
      have HLK := Lib.hid (lkN_len 32 k ([], (d5 32 bs).2.1, (d5 32 bs).2.2))
      have HSB := Lib.hid (suf_isB (HL6.out k) HB.out)
      have HSL := Lib.hid (Nat.le_trans (suf_len (HL6.out k)) HLL.out)
      have HST := Lib.hid (show lkN 32 (k + 1) ([], (d5 32 bs).2.1, (d5 32 bs).2.2) = lkStep 32 (lkN 32 k ([], (d5 32 bs).2.1, (d5 32 bs).2.2)) from rfl)
      generalize lkN 32 k ([], (d5 32 bs).2.1, (d5 32 bs).2.2) = st at *
      obtain ⟨s1, s2, s3⟩ := st
      simp only at hD HSB HSL HLK
      have HLK := Lib.hid (show s1.length + 1 ≤ 5000000000000 by have := HLK.out; simp only [List.length_nil] at this; omega)
      have hgr2 : w.heap.size ≤ wr.heap.size := hD.hb.size
      obtain ⟨oa, oc, rfl⟩ := hD.hO.val
      have q0 : wr.cell? ⟨gr, 5, none⟩ = some (.slice oa s1.length oc) := hD.kR.cell 5
      have HX := Lib.hid (fun w1 (hb1 : Below wr.heap.size wr w1) => refRbytes_any g s2 s3 32 w1 HSB.out HSL.out (hD.below hb1).hr)
      have HDk := Lib.hid (fun w1 (hb1 : Below wr.heap.size wr w1) => hD.below hb1)
      have HBI := Lib.hid (show lkStep 32 (s1, s2, s3) = (s1 ++ [(bI 32 s2 s3).1], (bI 32 s2 s3).2.1, (bI 32 s2 s3).2.2) from rfl)
      generalize hbI : bI 32 s2 s3 = bi at *
      obtain ⟨P, P2, P3⟩ := bi
      clear hbI hD
      go_wp2
      go_region_law (first
        | (refine step_append_textR rfl (.tmp 34) (.tmp 37) rfl w.heap.size _ s1 rfl hD3.hO w2'.heap.size 1 rfl (.slice xa' xn' xc') hc2 P hx2 HLK.out (Nat.le_trans hgr2 (Nat.le_trans hsz2 hbA.size)) ?_; intro l5 w5 hO5 hb5 hg5; obtain ⟨a5, c5, rfl⟩ := hO5.val; obtain ⟨q5, f5, hD5⟩ := hD3.app hO5 hg5)
        | (go_simp; go_at_call 86; refine (HX.out _ (by first | exact Below.refl _ _ | exact (Below.refl _ _).drew)).mono ?_; rintro e w2' ⟨x1, rfl, hx1, hR⟩; obtain ⟨xa', xn', xc', rfl⟩ := hx1.val; have hsz2 : wr.heap.size ≤ w2'.heap.size := hR.2.size; have hD2 := RDecS.read (HDk.out _ (by first | exact Below.refl _ _ | exact (Below.refl _ _).drew)) hR; have q7 : w2'.cell? ⟨gr, 5, none⟩ = some (.slice oa s1.length oc) := hD2.kR.cell 5; have hbA : Below w2'.heap.size w2' (w2'.alloc (.cells #[.slice xa' xn' xc'] 22)) := (Below.refl _ _).alloc (Nat.le_refl _) _; have hD3 := hD2.below hbA; have q8 : (w2'.alloc (.cells #[.slice xa' xn' xc'] 22)).cell? ⟨gr, 5, none⟩ = some (.slice oa s1.length oc) := hD3.kR.cell 5; have hx2 := hx1.below hbA (Nat.le_refl _); have hc2 := (Blk.new w2' 22 #[.slice xa' xn' xc']).cell 0))
      all_goals go_wp2
      all_goals go_roundw
      all_goals first
        | exact ⟨k + 1, _, by go_num, by omega, by rw [HST.out, HBI.out]; have hD6 := hD5; rw [List.length_append, List.length_singleton] at hD6; exact hD6⟩
        | (simp [intOf]; omega)
    · obtain rfl : k = N := by omega
      have hkI : ¬ (k : Int) < (k : Int) := by omega
      rw [← HD6.out] at hD
      obtain ⟨oa, oc, rfl⟩ := hD.hO.val
      have HRV := Lib.hid (show RecV wr (.agg #[.int .i64 (d1 bs).1, .int .i64 (d2 bs).1, .slice ta tn tc, .int .i64 (d4 32 bs).1, .slice la lcn lc, .slice oa (d6 32 bs).1.length oc]) (d1 bs).1 (d2 bs).1 (d3 32 bs).1 (d4 32 bs).1 (d5 32 bs).1 (d6 32 bs).1 from ⟨_, _, _, rfl, hD.ht, hD.hl, hD.hO.sls⟩)
      have HCE := Lib.hid (rrend_any g _ _ wr hD.hr)
      have HCN := Lib.hid (rcan_any size _ _ _ _ _ _ _ wr hz0 hz1 HRV.out)
      obtain ⟨c0, c1, c2, c3, c4, c5⟩ := rec6 hD.kR
      have HD := Lib.hid hD
      have HDO := Lib.hid (refOk_iff size bs)
      clear hD HD6 HRV
      generalize endI (d6 32 bs).2.2 (d6 32 bs).2.1 = eE at *
      by_cases h1 : eE = 0
      · have h1' : (eE != 0) = false := by simpa using h1
        by_cases h2 : canI size (d1 bs).1 (d2 bs).1 (d3 32 bs).1 (d4 32 bs).1 (d5 32 bs).1 (d6 32 bs).1
        · rw [decide_eq_true h2] at HCN
          have HOK := Lib.hid (HDO.out.2 ⟨h1, h2⟩)
          clear h1 h2 HDO
          go_wp2_with fail
          refine HCE.out.mono ?_
          rintro e w10 ⟨rfl, rfl⟩
          go_wp2_with fail
          refine HCN.out.mono ?_
          rintro e w11 ⟨rfl, hb11⟩
          have HD11 := Lib.hid (HD.out.below hb11)
          obtain ⟨c0, c1, c2, c3, c4, c5⟩ := rec6 HD11.out.kR
          obtain ⟨z0, z1, z2, z3, z4, z5⟩ := rec6 HD11.out.kZ
          obtain ⟨f0, f1, f2, f3, f4, f5⟩ := rec6f HD11.out.kZ
          clear hb11
          go_wp2
          exact bodyPost_ret (by rw [results_cell_tmp rfl]; go_simp; exact rfl) rfl ⟨_, by rw [show rdecC size bs = 0 from by unfold rdecC; rw [if_pos HOK.out]], fun _ => (HD11.out.stored (sixSet _ _ _ _ _ _)).1, fun h => absurd HOK.out h, (HD11.out.stored (sixSet _ _ _ _ _ _)).2⟩
        · rw [decide_eq_false h2] at HCN
          have HNO := Lib.hid (fun h => h2 (HDO.out.1 h).2)
          clear h1 h2 HDO
          go_wp2_with fail
          refine HCE.out.mono ?_
          rintro e w10 ⟨rfl, rfl⟩
          go_wp2_with fail
          refine HCN.out.mono ?_
          rintro e w11 ⟨rfl, hb11⟩
          have HD11 := Lib.hid (HD.out.below hb11)
          obtain ⟨z0, z1, z2, z3, z4, z5⟩ := rec6 HD11.out.kZ
          obtain ⟨f0, f1, f2, f3, f4, f5⟩ := rec6f HD11.out.kZ
          clear hb11
          go_wp2
          exact bodyPost_ret (by rw [results_cell_tmp rfl]; go_simp; exact rfl) rfl ⟨_, by rw [show rdecC size bs = 5 from by unfold rdecC; rw [if_neg HNO.out]], fun h => absurd h HNO.out, fun _ => rfl, (HD11.out.stored (sixSet _ _ _ _ _ _)).2⟩
      · have h1' : (eE != 0) = true := by simpa using h1
        have HNO := Lib.hid (fun h => h1 (HDO.out.1 h).1)
        clear h1 HDO
        obtain ⟨z0, z1, z2, z3, z4, z5⟩ := rec6 HD.out.kZ
        obtain ⟨f0, f1, f2, f3, f4, f5⟩ := rec6f HD.out.kZ
        go_wp2_with fail
        refine HCE.out.mono ?_
        rintro e w10 ⟨rfl, rfl⟩
        go_wp2
        exact bodyPost_ret (by rw [results_cell_tmp rfl]; go_simp; exact rfl) rfl ⟨_, by rw [show rdecC size bs = 5 from by unfold rdecC; rw [if_neg HNO.out]], fun h => absurd h HNO.out, fun _ => rfl, (HD.out.stored (sixSet _ _ _ _ _ _)).2⟩

end Go.Proofs.YtililoojjfcfgaaDoor

namespace Go.Proofs.YtililoojjfcfgaaDoor
open Go.RowKit
set_option linter.unusedVariables false

def hashR (size ep ti : Int) (tr : List Int) (co : Int) (li : List Int) (ln : List (List Int)) : List Int := if canI size ep ti tr co li ln then hashT size 5 [encI ep ti tr co li ln] else []

set_option maxHeartbeats 1000000 in
theorem rhash_any (size ep ti : Int) (tr : List Int) (co : Int) (li : List Int) (ln : List (List Int)) (v : Value) (w : World) (hz0 : -9223372036854775808 ≤ size) (hz1 : size ≤ 9223372036854775807) (hB : IsB tr ∧ IsB li ∧ ∀ p ∈ ln, IsB p) (hr : RecV w v ep ti tr co li ln) (hT : TzTab w) (ht : Tabs w) :
    Calls Tryd.prog 42 #[.int .i64 size, v] w fun e w' => ∃ x, e = .returned x ∧ Sl w' x ((hashR size ep ti tr co li ln).map (Value.int .u8)) ∧ Below w.heap.size w w' := by
  obtain ⟨ta, tn, tc, la, lc, lcc, ka, kc, rfl⟩ := hr.val
  have hb1 : Below w.heap.size w (w.alloc (.cells #[.int .i64 ep, .int .i64 ti, .slice ta tn tc, .int .i64 co, .slice la lc lcc, .slice ka ln.length kc] 25)) := (Below.refl _ _).alloc (Nat.le_refl _) _
  have HE := Lib.hid (enc_any size ep ti tr co li ln _ (w.alloc (.cells #[.int .i64 ep, .int .i64 ti, .slice ta tn tc, .int .i64 co, .slice la lc lcc, .slice ka ln.length kc] 25)) hz0 hz1 (hr.below hb1 (Nat.le_refl _)) (hT.below hb1))
  have HB := Lib.hid hB
  have HTB := Lib.hid ht
  clear hr hB hT ht
  by_cases hC : canI size ep ti tr co li ln
  · rw [show codeE size ep ti tr co li ln = 0 from by unfold codeE; rw [if_pos hC], show contE size ep ti tr co li ln = encI ep ti tr co li ln from by unfold contE; rw [if_pos hC]] at HE
    have HH := Lib.hid (show hashR size ep ti tr co li ln = hashT size 5 [encI ep ti tr co li ln] from by unfold hashR; rw [if_pos hC])
    have HIB := Lib.hid (encI_isB hC HB.out.1 HB.out.2.1 HB.out.2.2)
    clear hC
    generalize encI ep ti tr co li ln = en at *
    go_enter Tryd.func42, Tryd.ntmps42
    go_wp2_with fail
    refine HE.out.mono ?_
    rintro e w2 ⟨x, rfl, hx, hb2⟩
    obtain ⟨xa, xn, xc, rfl⟩ := hx.val
    have hbr := below_trans2 hb1 hb2
    have hbL : Below w2.heap.size w2 (w2.alloc (.cells #[.slice xa xn xc] 22)) := (Below.refl _ _).alloc (Nat.le_refl _) _
    have hSL := Sls.litA _ 22 (show SlAll w2 [.slice xa xn xc] [en] from ⟨hx, trivial⟩) (by simp [maxLen])
    have hbr := below_trans2 hbr hbL
    have HHC := Lib.hid (hash_any size 5 _ [en] _ (by simp) (by decide) (by decide) hSL (by intro p hp; simp only [List.mem_singleton] at hp; subst hp; exact HIB.out) (HTB.out.below hbr))
    clear hSL hx HE hb1 hb2
    go_wp2_with fail
    refine HHC.out.mono ?_
    rintro e w4 ⟨y, rfl, hy, hb4⟩
    have hbr := below_trans2 hbr hb4
    go_wp2
    go_ret
    exact ⟨_, rfl, by rw [HH.out]; exact hy, hbr⟩
  · rw [show codeE size ep ti tr co li ln = 1 from by unfold codeE; rw [if_neg hC], show contE size ep ti tr co li ln = [] from by unfold contE; rw [if_neg hC]] at HE
    have HH := Lib.hid (show hashR size ep ti tr co li ln = [] from by unfold hashR; rw [if_neg hC])
    clear hC
    go_enter Tryd.func42, Tryd.ntmps42
    go_wp2_with fail
    refine HE.out.mono ?_
    rintro e w2 ⟨x, rfl, hx, hb2⟩
    have hbr := below_trans2 hb1 hb2
    go_wp2
    go_ret
    exact ⟨_, rfl, by rw [HH.out]; exact Sl.nil _, hbr⟩

set_option maxHeartbeats 1000000 in
theorem refrhash_any (size ep ti : Int) (tr : List Int) (co : Int) (li : List Int) (ln : List (List Int)) (v : Value) (w : World) (hz0 : -9223372036854775808 ≤ size) (hz1 : size ≤ 9223372036854775807) (hB : IsB tr ∧ IsB li ∧ ∀ p ∈ ln, IsB p) (hr : RecV w v ep ti tr co li ln) :
    Calls Tryd.prog 43 #[.int .i64 size, v] w fun e w' => ∃ x, e = .returned x ∧ Sl w' x ((hashR size ep ti tr co li ln).map (Value.int .u8)) ∧ Below w.heap.size w w' := by
  obtain ⟨ta, tn, tc, la, lc, lcc, ka, kc, rfl⟩ := hr.val
  have hb1 : Below w.heap.size w (w.alloc (.cells #[.int .i64 ep, .int .i64 ti, .slice ta tn tc, .int .i64 co, .slice la lc lcc, .slice ka ln.length kc] 25)) := (Below.refl _ _).alloc (Nat.le_refl _) _
  have HE := Lib.hid (renc_any size ep ti tr co li ln _ (w.alloc (.cells #[.int .i64 ep, .int .i64 ti, .slice ta tn tc, .int .i64 co, .slice la lc lcc, .slice ka ln.length kc] 25)) hz0 hz1 (hr.below hb1 (Nat.le_refl _)))
  have HB := Lib.hid hB
  clear hr hB
  by_cases hC : canI size ep ti tr co li ln
  · rw [show codeE size ep ti tr co li ln = 0 from by unfold codeE; rw [if_pos hC], show contE size ep ti tr co li ln = encI ep ti tr co li ln from by unfold contE; rw [if_pos hC]] at HE
    have HH := Lib.hid (show hashR size ep ti tr co li ln = hashT size 5 [encI ep ti tr co li ln] from by unfold hashR; rw [if_pos hC])
    have HIB := Lib.hid (encI_isB hC HB.out.1 HB.out.2.1 HB.out.2.2)
    clear hC
    generalize encI ep ti tr co li ln = en at *
    go_enter Tryd.func43, Tryd.ntmps43
    go_wp2_with fail
    refine HE.out.mono ?_
    rintro e w2 ⟨x, rfl, hx, hb2⟩
    obtain ⟨xa, xn, xc, rfl⟩ := hx.val
    have hbr := below_trans2 hb1 hb2
    have hbL : Below w2.heap.size w2 (w2.alloc (.cells #[.slice xa xn xc] 22)) := (Below.refl _ _).alloc (Nat.le_refl _) _
    have hSL := Sls.litA _ 22 (show SlAll w2 [.slice xa xn xc] [en] from ⟨hx, trivial⟩) (by simp [maxLen])
    have hbr := below_trans2 hbr hbL
    have HHC := Lib.hid (refHash_any size 5 _ [en] _ (by simp) (by decide) (by decide) hSL (by intro p hp; simp only [List.mem_singleton] at hp; subst hp; exact HIB.out))
    clear hSL hx HE hb1 hb2
    go_wp2_with fail
    refine HHC.out.mono ?_
    rintro e w4 ⟨y, rfl, hy, hb4⟩
    have hbr := below_trans2 hbr hb4
    go_wp2
    go_ret
    exact ⟨_, rfl, by rw [HH.out]; exact hy, hbr⟩
  · rw [show codeE size ep ti tr co li ln = 1 from by unfold codeE; rw [if_neg hC], show contE size ep ti tr co li ln = [] from by unfold contE; rw [if_neg hC]] at HE
    have HH := Lib.hid (show hashR size ep ti tr co li ln = [] from by unfold hashR; rw [if_neg hC])
    clear hC
    go_enter Tryd.func43, Tryd.ntmps43
    go_wp2_with fail
    refine HE.out.mono ?_
    rintro e w2 ⟨x, rfl, hx, hb2⟩
    have hbr := below_trans2 hb1 hb2
    go_wp2
    go_ret
    exact ⟨_, rfl, by rw [HH.out]; exact Sl.nil _, hbr⟩

end Go.Proofs.YtililoojjfcfgaaDoor
