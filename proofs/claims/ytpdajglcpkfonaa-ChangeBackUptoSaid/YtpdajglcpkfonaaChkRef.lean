/- The walk of the reference's check of a batch. -/
import Derived.Test.YtpdajglcpkfonaaChk
namespace Go.Proofs.Ytpdajglcpkfonaa
open Go.RowKit
set_option linter.unusedVariables false

theorem idsAt (l : List Chg) (k : Nat) (hk : k < l.length) : (l.map (·.1)).getD k [] = (l.getD k ([], [])).1 := by
  simp [List.getD_eq_getElem?_getD, List.getElem?_map, List.getElem?_eq_getElem hk]
theorem nodup_step (ids : List (List Int)) (k : Nat) (hk : k < ids.length) (h : (ids.take k).Nodup) (hne : ∀ j, j < k → ids.getD j [] ≠ ids.getD k []) : (ids.take (k + 1)).Nodup := by
  rw [List.take_succ_eq_append_getElem hk, List.nodup_append]
  refine ⟨h, by simp, fun a ha b hb => ?_⟩
  simp only [List.mem_singleton] at hb
  subst hb
  obtain ⟨j, hj, rfl⟩ := List.mem_iff_getElem.1 ha
  rw [List.length_take] at hj
  have := hne j (by omega)
  rw [List.getD_eq_getElem?_getD, List.getD_eq_getElem?_getD, List.getElem?_eq_getElem hk, List.getElem?_eq_getElem (by omega)] at this
  simpa using this
theorem nodup_not (ids : List (List Int)) (j k : Nat) (hjk : j < k) (hk : k < ids.length) (h : ids.getD j [] = ids.getD k []) : ¬ ids.Nodup := fun hn => by
  rw [List.getD_eq_getElem?_getD, List.getD_eq_getElem?_getD, List.getElem?_eq_getElem hk, List.getElem?_eq_getElem (by omega)] at h
  have := (List.getElem_inj (h₀ := by omega) (h₁ := hk) hn).1 h
  omega

set_option maxRecDepth 100000 in
set_option maxHeartbeats 2000000 in
theorem refCheck_any (p0 p1 p2 p3 p4 p5 p6 p7 : Int) (v : Value) (l : List Chg) (w : World) (hB : ∀ p ∈ l, IsB p.1) (hs : Bds w v l) :
    Calls Try.prog 24 #[.agg #[.int .i64 p0, .int .i64 p1, .int .i64 p2, .int .i64 p3, .int .i64 p4, .int .i64 p5, .int .i64 p6, .int .i64 p7], v] w (ChkPost w p2 p3 l) := by
  obtain ⟨a, cap, rfl, hc, hm⟩ := hs.shape
  by_cases h0 : l.length = 0
  · have hr : chkI p2 p3 l = 82 := by unfold chkI; rw [if_pos h0]
    have HR := Lib.hid hr
    have h0I : (l.length : Int) = 0 := by omega
    clear hr hs hB
    go_enter Try.func24, Try.ntmps24
    go_wp2
    go_ret
    exact ⟨by rw [HR.out]; rfl, (Below.refl _ _).alloc (Nat.le_refl _) _⟩
  · by_cases h1 : 32 < l.length
    · have hr : chkI p2 p3 l = 4 := by unfold chkI; rw [if_neg h0, if_pos h1]
      have HR := Lib.hid hr
      have h0I : ¬ (l.length : Int) = 0 := by omega
      have h1I : (32 : Int) < (l.length : Int) := by omega
      clear hr hs hB
      go_enter Try.func24, Try.ntmps24
      go_wp2
      go_ret
      exact ⟨by rw [HR.out]; rfl, (Below.refl _ _).alloc (Nat.le_refl _) _⟩
    · have h0I : ¬ (l.length : Int) = 0 := by omega
      have h1I : ¬ (32 : Int) < (l.length : Int) := by omega
      have hb1 : Below w.heap.size w (w.alloc (.cells #[.int .i64 p0, .int .i64 p1, .int .i64 p2, .int .i64 p3, .int .i64 p4, .int .i64 p5, .int .i64 p6, .int .i64 p7] 49)) := (Below.refl _ _).alloc (Nat.le_refl _) _
      have kP := Blk.new w 49 #[.int .i64 p0, .int .i64 p1, .int .i64 p2, .int .i64 p3, .int .i64 p4, .int .i64 p5, .int .i64 p6, .int .i64 p7]
      have hs1 := hs.below hb1 (Nat.le_refl _)
      have hsz1 : (w.alloc (.cells #[.int .i64 p0, .int .i64 p1, .int .i64 p2, .int .i64 p3, .int .i64 p4, .int .i64 p5, .int .i64 p6, .int .i64 p7] 49)).heap.size = w.heap.size + 1 := by simp
      have HB := Lib.hid hB
      have HE := Lib.hid (fun h => chk_end (mi := p2) (mk := p3) (l := l) (by omega) h1 h)
      have HL := Lib.hid (fun k hk h => chk_long (mi := p2) (mk := p3) (l := l) (by omega) h1 k hk h)
      obtain ⟨b, off, rfl, hbl, _⟩ := hs1.at (k := 0) (by omega)
      clear hs
      go_enter Try.func24, Try.ntmps24
      go_wp2
      generalize (w.alloc (.cells #[.int .i64 p0, .int .i64 p1, .int .i64 p2, .int .i64 p3, .int .i64 p4, .int .i64 p5, .int .i64 p6, .int .i64 p7] 49)) = w1 at *
      go_loopw [19] (fun i wr => ∃ (k : Nat), k ≤ l.length ∧ i = .int .i64 k ∧ Hid (∀ j, j < k → Long p2 p3 (l.getD j ([], [])) = false) ∧ Below w1.heap.size w1 wr)
        (fun i _ => l.length - (intOf i).toNat)
      case atStart => exact ⟨0, Nat.zero_le _, rfl, fun j hj => absurd hj (by omega), Below.refl _ _⟩
      case round =>
        obtain ⟨k, hk, rfl, hlong, hnx⟩ := hrel
        have kr := kP.belowS hnx
        by_cases hlt : k < l.length
        · have hkI : (k : Int) < (l.length : Int) := by omega
          obtain ⟨b', off', hbb, _, u1, u2, c1, c2, s1, s2⟩ := hs1.at hlt
          cases hbb
          have c1 : wr.cell? ⟨b, off + k * 2, none⟩ = some u1 := (hnx.cell (p := ⟨b, off + k * 2, none⟩) hbl).trans c1
          have c2 : wr.cell? ⟨b, off + k * 2 + 1, none⟩ = some u2 := (hnx.cell (p := ⟨b, off + k * 2 + 1, none⟩) hbl).trans c2
          have s1 := s1.below hnx (Nat.le_refl _)
          have s2 := s2.below hnx (Nat.le_refl _)
          have HLk := Lib.hid (HL.out k hlt)
          generalize hP : l.getD k ([], []) = P at *
          obtain ⟨x, y⟩ := P
          have HP := Lib.hid hP
          clear hP
          obtain ⟨xa, xc, rfl, _, hxm⟩ := s1.shape
          obtain ⟨ya, yc, rfl, _, _⟩ := s2.shape
          simp only [List.length_map] at *
          have hbA : Below wr.heap.size wr (wr.alloc (.cells #[.slice xa x.length xc, .slice ya y.length yc] 74)) := (Below.refl _ _).alloc (Nat.le_refl _) _
          have kA := kr.belowS hbA
          have q2 : (wr.alloc (.cells #[.slice xa x.length xc, .slice ya y.length yc] 74)).cell? ⟨w.heap.size, 2, none⟩ = some (.int .i64 p2) := kA.cell 2
          have q3 : (wr.alloc (.cells #[.slice xa x.length xc, .slice ya y.length yc] 74)).cell? ⟨w.heap.size, 3, none⟩ = some (.int .i64 p3) := kA.cell 3
          have hnxA := hnx.trans (hbA.mono hnx.size)
          by_cases hx : p2 < (x.length : Int)
          · have hr := HLk.out (by unfold Long; rw [decide_eq_true hx]; rfl)
            have HR := Lib.hid hr
            clear hr hnx kr kP hs1 s1 s2 hB
            go_wp2
            go_ret
            exact ⟨by rw [HR.out]; rfl, (hb1.trans (hnxA.mono (by omega)))⟩
          · by_cases hy : p3 < (y.length : Int)
            · have hr := HLk.out (by unfold Long; rw [decide_eq_true hy, Bool.or_true])
              have HR := Lib.hid hr
              clear hr hnx kr kP hs1 s1 s2 hB
              go_wp2
              go_ret
              exact ⟨by rw [HR.out]; rfl, (hb1.trans (hnxA.mono (by omega)))⟩
            · have HLo := Lib.hid (show Long p2 p3 (x, y) = false by unfold Long; rw [decide_eq_false hx, decide_eq_false hy]; rfl)
              clear hnx kr kP hs1 s1 s2 hB
              go_wp2
              go_roundw
              case rel => exact ⟨k + 1, by omega, by go_num, fun j hj => by
                rcases Nat.lt_or_ge j k with h | h
                · exact hlong.out j h
                · obtain rfl : j = k := by omega
                  rw [HP.out]; exact HLo.out, hnxA⟩
              case measure => simp [intOf]; omega
        · obtain rfl : k = l.length := by omega
          have hkI : ¬ (l.length : Int) < (l.length : Int) := by omega
          have hall : ∀ p ∈ l, Long p2 p3 p = false := fun p hp => by
            obtain ⟨j, hj, rfl⟩ := List.mem_iff_getElem.1 hp
            have := hlong.out j hj
            rwa [List.getD_eq_getElem?_getD, List.getElem?_eq_getElem hj] at this
          have HR := Lib.hid (HE.out hall)
          have hs2 := hs1.below hnx (Nat.le_refl _)
          clear hall hs1 hB kP kr HE HL
          go_wp2
          have hb2 := hb1.trans (hnx.mono (by omega))
          have hbl2 : b < wr.heap.size := by have := hnx.size; omega
          clear hnx hb1 hlong
          generalize wr = wq at *
          go_loopw [40] (fun i wr2 => ∃ (k : Nat), k ≤ l.length ∧ i = .int .i64 k ∧ Hid (((l.map (·.1)).take k).Nodup) ∧ Below wq.heap.size wq wr2)
            (fun i _ => l.length - (intOf i).toNat)
          case atStart => exact ⟨0, Nat.zero_le _, rfl, by simp [Hid], Below.refl _ _⟩
          case round =>
            generalize wr = wr2 at *
            obtain ⟨k, hk, rfl, hnd, hnx⟩ := hrel
            have hsk := hs2.below hnx (Nat.le_refl _)
            by_cases hlt : k < l.length
            · have hkI : (k : Int) < (l.length : Int) := by omega
              have hkc : (k : Int) ≤ (cap : Int) := by omega
              obtain ⟨b', off', hbb, _, u1, u2, c1, c2, s1, s2⟩ := hsk.at hlt
              cases hbb
              have HID := Lib.hid (idsAt l k hlt)
              have HBx : Hid (IsB (l.getD k ([], [])).1) := by
                rw [List.getD_eq_getElem?_getD, List.getElem?_eq_getElem hlt]
                exact HB.out _ (List.getElem_mem hlt)
              generalize hP : l.getD k ([], []) = P at *
              obtain ⟨x, y⟩ := P
              clear hP
              obtain ⟨xa, xc, rfl, _, hxm⟩ := s1.shape
              obtain ⟨ya, yc, rfl, _, _⟩ := s2.shape
              simp only [List.length_map] at *
              have hbA : Below wr2.heap.size wr2 (wr2.alloc (.cells #[.slice xa x.length xc, .slice ya y.length yc] 74)) := (Below.refl _ _).alloc (Nat.le_refl _) _
              have kA := Blk.new wr2 74 #[.slice xa x.length xc, .slice ya y.length yc]
              have hnxA := hnx.trans (hbA.mono hnx.size)
              have hsA := hsk.below hbA (Nat.le_refl _)
              have s1A := s1.below hbA (Nat.le_refl _)
              have hblA : b < wr2.heap.size := by have := hnx.size; omega
              clear s1 s2 hsk hnx
              go_wp2
              generalize hwA : (wr2.alloc (.cells #[.slice xa x.length xc, .slice ya y.length yc] 74)) = wA at *
              have hszA : wr2.heap.size < wA.heap.size := by rw [← hwA]; simp
              clear hwA
              go_loopw [49] (fun i wr3 => ∃ (m : Nat), m ≤ k ∧ i = .int .i64 m ∧ Hid (∀ j, j < m → (l.map (·.1)).getD j [] ≠ x) ∧ Below wA.heap.size wA wr3)
                (fun i _ => k - (intOf i).toNat)
              case atStart => exact ⟨0, Nat.zero_le _, rfl, fun j hj => absurd hj (by omega), Below.refl _ _⟩
              case round =>
                generalize wr = wr3 at *
                obtain ⟨m, hmk, rfl, hne, hnx⟩ := hrel
                by_cases hml : m < k
                · have hmI : (m : Int) < (k : Int) := by omega
                  have hsm := hsA.below hnx (Nat.le_refl _)
                  obtain ⟨b', off', hbb, _, u3, u4, c3, c4, s3, s4⟩ := hsm.at (k := m) (by omega)
                  cases hbb
                  have HIM := Lib.hid (idsAt l m (by omega))
                  have HBz : Hid (IsB (l.getD m ([], [])).1) := by
                    rw [List.getD_eq_getElem?_getD, List.getElem?_eq_getElem (by omega)]
                    exact HB.out _ (List.getElem_mem _)
                  generalize hP : l.getD m ([], []) = P at *
                  obtain ⟨z, t⟩ := P
                  clear hP
                  obtain ⟨za, zc, rfl, _, _⟩ := s3.shape
                  obtain ⟨ta, tc, rfl, _, _⟩ := s4.shape
                  simp only [List.length_map] at *
                  have hbB : Below wr3.heap.size wr3 (wr3.alloc (.cells #[.slice za z.length zc, .slice ta t.length tc] 74)) := (Below.refl _ _).alloc (Nat.le_refl _) _
                  have kB := (kA.belowS hnx).belowS hbB
                  have q1 : (wr3.alloc (.cells #[.slice za z.length zc, .slice ta t.length tc] 74)).cell? ⟨wr2.heap.size, 0, none⟩ = some (.slice xa x.length xc) := kB.cell 0
                  have cv1 := ((s1A.below hnx (Nat.le_refl _)).below hbB (Nat.le_refl _)).conv
                  have cv2 := (s3.below hbB (Nat.le_refl _)).conv
                  have hnxB := hnx.trans (hbB.mono hnx.size)
                  by_cases hxz : x = z
                  · have hsz : ((strOfNums x).toList == (strOfNums z).toList) = true := by rw [hxz]; exact beq_self_eq_true _
                    have hr := HR.out
                    rw [if_neg (nodup_not (l.map (·.1)) m k hml (by simpa using hlt) (by rw [HIM.out, HID.out]; exact hxz.symm))] at hr
                    have HRR := Lib.hid hr
                    clear hr hxz hsm s3 s4 hsA hs2 kA kB s1A hnx
                    go_wp2
                    go_ret
                    exact ⟨by rw [HRR.out]; rfl, hb2.trans ((hnxA.trans (hnxB.mono hnxA.size)).mono hb2.size)⟩
                  · have hsz : ((strOfNums x).toList == (strOfNums z).toList) = false := by rw [beq_eq_false_iff_ne]; exact fun h => hxz (strOfNums_inj HBx.out HBz.out (toList_inj h))
                    have HXZ := Lib.hid hxz
                    clear hxz hsm s3 s4 hsA hs2 kA kB s1A hnx
                    go_wp2
                    exact ⟨⟨m + 1, by omega, by go_num, fun j hj => by
                      rcases Nat.lt_or_ge j m with h | h
                      · exact hne.out j h
                      · obtain rfl : j = m := by omega
                        rw [HIM.out]; exact fun e => HXZ.out e.symm, hnxB⟩, by simp [intOf]; omega⟩
                · obtain rfl : m = k := by omega
                  have hmI : ¬ (m : Int) < (m : Int) := by omega
                  clear hsA hs2 kA s1A
                  go_wp2
                  exact ⟨⟨m + 1, by omega, by go_num, nodup_step _ m (by simpa using hlt) hnd.out (fun j hj => by rw [HID.out]; exact hne.out j hj), hnxA.trans (hnx.mono hnxA.size)⟩, by simp [intOf]; omega⟩
            · obtain rfl : k = l.length := by omega
              have hkI : ¬ (l.length : Int) < (l.length : Int) := by omega
              have hr := HR.out
              have hn := hnd.out
              rw [List.take_of_length_le (by simp)] at hn
              rw [if_pos hn] at hr
              have HRR := Lib.hid hr
              clear hr hn hsk hs2
              go_wp2
              go_ret
              exact ⟨by rw [HRR.out]; rfl, hb2.trans (hnx.mono hb2.size)⟩

end Go.Proofs.Ytpdajglcpkfonaa
