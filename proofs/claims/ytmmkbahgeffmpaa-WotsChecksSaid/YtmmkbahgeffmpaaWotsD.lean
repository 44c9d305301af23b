/- The plain law of the digits, and the walk of the law WotsChecks. -/
import Derived.Test.YtmmkbahgeffmpaaWotsC
import Derived.Test.YtmmkbahgeffmpaaEqInts
import Derived.Deep.DeepCutAuto
namespace Go.Proofs.Ytmmkbahgeffmpaa
open Go.RowKit
set_option linter.unusedVariables false

set_option maxHeartbeats 1000000 in
theorem wotsChecks_walk (v0 : Value) (z0 : List Int) (v1 : Value) (z1 : List Int) (w : World) (hB0 : IsB z0) (s0 : Sl w v0 (z0.map (Value.int .u8))) (hB1 : IsB z1) (s1 : Sl w v1 (z1.map (Value.int .u8))) :
    Calls Try.prog 4 #[v0, v1] w fun e w' => e = .returned (.bool true) ∧ Below w.heap.size w w' := by
  obtain ⟨a0, c0, rfl, hc0, hm0⟩ : ∃ ad cap, v0 = .slice ad z0.length cap ∧ z0.length ≤ cap ∧ cap ≤ 9223372036854775807 := by
    obtain ⟨x, y, h1, h2, h3, _⟩ := s0
    simp only [List.length_map] at *
    exact ⟨x, y, h1, h2, h3⟩
  obtain ⟨a1, c1, rfl, hc1, hm1⟩ : ∃ ad cap, v1 = .slice ad z1.length cap ∧ z1.length ≤ cap ∧ cap ≤ 9223372036854775807 := by
    obtain ⟨x, y, h1, h2, h3, _⟩ := s1
    simp only [List.length_map] at *
    exact ⟨x, y, h1, h2, h3⟩
  go_enter Try.func4, Try.ntmps4
  go_upto_region 1 with (fail)
  go_cut [5] (fun s5 wx => ∃ n : Nat, s5 = .int .i64 n ∧ n ≤ z0.length ∧ n ≤ z1.length ∧ n ≤ 32 ∧ wx = w)
  case first =>
    go_wp2
    all_goals (go_meet; first | exact ⟨32, rfl, by omega, by omega, by omega, rfl⟩ | exact ⟨z0.length, rfl, by omega, by omega, by omega, rfl⟩ | exact ⟨z1.length, rfl, by omega, by omega, by omega, rfl⟩)
  case rest =>
    obtain ⟨n, rfl, hn0, hn1, hn32, rfl⟩ := hcut
    have t0 := s0.take n (by simpa using hn0)
    have t1 := s1.take n (by simpa using hn1)
    rw [← List.map_take] at t0 t1
    have hB0' := hB0.take n
    have hB1' := hB1.take n
    have hl0 : (z0.take n).length = n := by simp; omega
    have hl1 : (z1.take n).length = n := by simp; omega
    have hnc0 : n ≤ c0 := by omega
    have hnc1 : n ≤ c1 := by omega
    generalize hA : z0.take n = A at t0 hB0' hl0
    generalize hC : z1.take n = C at t1 hB1' hl1
    have HL := Lib.hid (And.intro hl0 hl1)
    clear hA hC s0 s1 hB0 hB1 hn0 hn1 hl0 hl1 hc0 hc1
    go_wp2
    go_quiet (fail)
    have hb0 : Below wc.heap.size wc (wc.drewN nq) := below_drewN (Below.refl _ _) _
    go_wp2_with fail
    refine (digits_short A _ hB0' (by rw [HL.out.1]; exact hn32) _ (t0.below hb0 (Nat.le_refl _))).mono ?_
    rintro e w1 ⟨v1, rfl, d0, hb1⟩
    go_wp2_with fail
    refine (digits_short C _ hB1' (by rw [HL.out.2]; exact hn32) _ ((t1.below hb0 (Nat.le_refl _)).below hb1 (Nat.le_refl _))).mono ?_
    rintro e w2 ⟨v2, rfl, d1, hb2⟩
    have hb3 : Below wc.heap.size wc w2 := below_trans2 (below_trans2 hb0 hb1) hb2
    have d0 := d0.below hb2 (Nat.le_refl _)
    have t0 := t0.below hb3 (Nat.le_refl _)
    have t1 := t1.below hb3 (Nat.le_refl _)
    clear hb0 hb1 hb2
    have lx := digits_len A (by rw [HL.out.1]; exact hn32)
    have ly := digits_len C (by rw [HL.out.2]; exact hn32)
    rw [HL.out.1] at lx
    rw [HL.out.2] at ly
    have HLT := Lib.hid (digits_lt hB0' hB1' (HL.out.1.trans HL.out.2.symm) (by rw [HL.out.1]; exact hn32))
    have HGT := Lib.hid (digits_lt hB1' hB0' (HL.out.2.trans HL.out.1.symm) (by rw [HL.out.2]; exact hn32))
    have HMX := Lib.hid (fun j => digits_mem (a := A) (by rw [HL.out.1]; exact hn32) j)
    have HMY := Lib.hid (fun j => digits_mem (a := C) (by rw [HL.out.2]; exact hn32) j)
    rw [HL.out.1] at HLT
    rw [HL.out.2] at HGT
    generalize digitsOf A = X at d0 lx HLT HGT HMX
    generalize digitsOf C = Y at d1 ly HLT HGT HMY
    obtain ⟨ax, cx, rfl⟩ : ∃ ax cx, v1 = .slice ax (4 * n + 5) cx := by
      obtain ⟨x, y, h1, _⟩ := d0
      exact ⟨x, y, by rw [h1, List.length_map, lx]⟩
    obtain ⟨ay, cy, rfl⟩ : ∃ ay cy, v2 = .slice ay (4 * n + 5) cy := by
      obtain ⟨x, y, h1, _⟩ := d1
      exact ⟨x, y, by rw [h1, List.length_map, ly]⟩
    have LX := Lib.hid lx
    have LY := Lib.hid ly
    clear lx ly
    go_wp2
    go_loopw [8, 9, 42] (fun l m i wr => ∃ k : Nat, k ≤ 4 * n + 5 ∧ i = .int .i64 k ∧ l = .bool (ltUpto X Y k) ∧ m = .bool (ltUpto Y X k) ∧ Below w2.heap.size w2 wr) (fun _ _ i _ => 4 * n + 5 - (intOf i).toNat)
    case atStart => exact ⟨0, Nat.zero_le _, rfl, rfl, rfl, Below.refl _ _⟩
    case round =>
      obtain ⟨k, hk, rfl, rfl, rfl, hbr⟩ := hrel
      have hsz := hbr.size
      by_cases hlt : k < 4 * n + 5
      · obtain ⟨bx, ox, rfl, hbx, hx⟩ := d0.ints (k := k) (by rw [LX.out]; exact hlt)
        obtain ⟨by', oy, rfl, hby, hy⟩ := d1.ints (k := k) (by rw [LY.out]; exact hlt)
        have hx1 : wr.cell? ⟨bx, ox + k, none⟩ = some (.int .i64 (X.getD k 0)) := by rw [hbr.cell (p := ⟨bx, ox + k, none⟩) hbx]; exact hx k (by rw [LX.out]; exact hlt)
        have hy1 : wr.cell? ⟨by', oy + k, none⟩ = some (.int .i64 (Y.getD k 0)) := by rw [hbr.cell (p := ⟨by', oy + k, none⟩) hby]; exact hy k (by rw [LY.out]; exact hlt)
        have HS1 := Lib.hid (ltUpto_succ X Y k)
        have HS2 := Lib.hid (ltUpto_succ Y X k)
        generalize X.getD k 0 = x at hx1 HS1 HS2
        generalize Y.getD k 0 = y at hy1 HS1 HS2
        generalize ltUpto X Y k = l at HS1 ⊢
        generalize ltUpto Y X k = m at HS2 ⊢
        have hkI : (k : Int) < 4 * (n : Int) + 5 := by omega
        clear hx hy
        cases l <;> cases m
        all_goals
          go_wp2
          go_quiet (fail)
          go_wp2
          go_roundw
          case rel => exact ⟨k + 1, by omega, by go_num, by rw [HS1.out]; simp, by rw [HS2.out]; simp, by first | exact hbr | exact below_drewN hbr _⟩
          case measure => simp [intOf]; omega
      · obtain rfl : k = 4 * n + 5 := by omega
        rw [HLT.out, HGT.out]
        by_cases he : A = C
        · subst he
          have heq : (!decide (A = A)) = false := by simp
          rw [heq]
          clear heq
          go_wp2_with fail
          refine (bytesEq_same _ _ A wr (t0.below hbr (Nat.le_refl _)) (t1.below hbr (Nat.le_refl _)) hB0').mono ?_
          rintro e w3 ⟨rfl, rfl⟩
          go_wp2_with fail
          refine (wotsAwake_any _).mono ?_
          rintro e w4 ⟨rfl, hb4⟩
          go_wp2
          go_ret
          exact ⟨rfl, below_trans2 (below_trans2 hb3 hbr) hb4⟩
        · have he1 : (!decide (A = C)) = true := by simpa using he
          have he2 : (!decide (C = A)) = true := by simpa using fun h : C = A => he h.symm
          rw [he1, he2]
          have HQ := Lib.hid (bytesEq_ne _ _ A C wr (t0.below hbr (Nat.le_refl _)) (t1.below hbr (Nat.le_refl _)) hB0' hB1' he)
          clear he he1 he2
          go_wp2_with fail
          refine HQ.out.mono ?_
          rintro e w3 ⟨rfl, rfl⟩
          clear HQ
          go_wp2_with fail
          refine (wotsAwake_any _).mono ?_
          rintro e w4 ⟨rfl, hb4⟩
          go_wp2
          go_ret
          exact ⟨rfl, below_trans2 (below_trans2 hb3 hbr) hb4⟩

end Go.Proofs.Ytmmkbahgeffmpaa
