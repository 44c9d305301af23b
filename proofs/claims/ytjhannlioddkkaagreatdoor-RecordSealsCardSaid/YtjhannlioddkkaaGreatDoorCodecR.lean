
/- The codec: the reference's numbers and texts put behind bytes. -/
import Derived.Test.YtjhannlioddkkaaGreatDoorCodec
namespace Go.Proofs.YtjhannlioddkkaaGreatDoor
open Go.RowKit
set_option linter.unusedVariables false

/-- The bytes that have come off a number behind k rounds, the last first. -/
def offI (m k : Nat) : List Int := (List.range k).reverse.map (dig m)
theorem offI_succ (m k : Nat) : offI m (k + 1) = dig m k :: offI m k := by unfold offI; rw [List.range_succ, List.reverse_append]; rfl
theorem offI_len (m k : Nat) : (offI m k).length = k := by simp [offI]
theorem offI_be (m k : Nat) : offI m k = beI m k k := by
  unfold offI beI
  apply List.ext_getElem
  · simp
  · intro i h1 h2
    simp [List.getElem_reverse]

theorem ownsRow_base {w : World} {b0 b1 : Nat} {e : TypeId} {size : Nat} {v : Value} {n : Nat} {xs : List Value} (h : w.ownsRow b1 e size v n xs) (hb : b0 ≤ b1) : w.ownsRow b0 e size v n xs := by
  obtain ⟨h1, h2⟩ := h
  refine ⟨h1, h2.imp id ?_⟩
  rintro ⟨g, cap, cur, hv, hg, hr⟩
  exact ⟨g, cap, cur, hv, by omega, hr⟩

theorem width_of : ∀ (k m : Nat), m < 256 ^ k → (k = 0 ∨ 256 ^ (k - 1) ≤ m) → m < 2 ^ 63 → width m = k
  | 0, m, h, _, _ => by
    obtain rfl : m = 0 := by simpa using h
    decide
  | 1, m, h, h2, _ => by
    have h3 : 1 ≤ m := by simpa using h2
    have h4 : m < 256 := by simpa using h
    have h5 := Lib.bitLen_half m (by omega) (by omega)
    have h6 := Lib.bitLen_le m 8 (by omega) (by omega)
    unfold width; omega
  | k + 2, m, h, h2, h3 => by
    have h4 : 256 ^ (k + 1) ≤ m := by simpa using h2
    have hp : 0 < 256 ^ k := Nat.pow_pos (by decide)
    rw [Nat.pow_succ] at h4
    have h5 : 256 ≤ m := by
      have := Nat.mul_le_mul_right 256 hp
      omega
    have ih := width_of (k + 1) (m / 256) (by rw [Nat.pow_succ] at h; exact Nat.div_lt_of_lt_mul (by rw [Nat.mul_comm]; exact h)) (.inr (by simpa using (Nat.le_div_iff_mul_le (by decide)).2 h4)) (by omega)
    have h6 := Lib.bitLen_shift8 m h5 (by omega)
    unfold width at *; omega

set_option maxRecDepth 100000 in
set_option maxHeartbeats 1000000 in
theorem ruint_any (v : Value) (bs : List Int) (n : Int) (w : World) (hn : bs.length ≤ 100000000000000) (hs : Sl w v (bs.map (Value.int .u8))) (h0 : 0 ≤ n) (h1 : n ≤ 4611686018427387904) :
    Calls Tryz.prog 40 #[v, .int .i64 n] w fun e w' => ∃ v', e = .returned v' ∧ w'.ownsRow w.heap.size 5 1 v' (bs.length + (uintN n.toNat).length) ((bs ++ uintN n.toNat).map (Value.int .u8)) ∧ Below w.heap.size w w' := by
  obtain ⟨m, rfl⟩ : ∃ m : Nat, n = m := ⟨n.toNat, by omega⟩
  rw [Int.toNat_natCast]
  obtain ⟨i0, hi, hz0, hz1, hz2⟩ := info_parts info8c
  obtain ⟨va, vc, rfl, _, _⟩ := hs.shape
  simp only [List.length_map] at *
  go_enter Tryz.func40, Tryz.ntmps40
  go_wp2
  go_loopw [1, 5] (fun i o wr => ∃ (k : Nat) (ov : Value), ov = o ∧ i = .int .i64 ((m / 256 ^ k : Nat) : Int) ∧ k ≤ 8 ∧ Hid (k = 0 ∨ 256 ^ (k - 1) ≤ m) ∧ wr.ownsRow w.heap.size 5 1 ov k ((offI m k).map (Value.int .u8)) ∧ Below w.heap.size w wr) (fun i _ _ => (intOf i).toNat)
  case atStart => exact ⟨0, _, rfl, by simp; omega, by omega, .inl rfl, World.ownsRow_nil _ _ _ _, Below.refl _ _⟩
  case round =>
    obtain ⟨k, ov, rfl, rfl, hk, hlow, hown, hbr⟩ := hrel
    have hnx : m / 256 ^ (k + 1) = m / 256 ^ k / 256 := by rw [Nat.pow_succ, Nat.div_div_eq_div_mul]
    have hdg : dig m k = ((m / 256 ^ k % 256 : Nat) : Int) := rfl
    have hge : 0 < m / 256 ^ k → 256 ^ k ≤ m := fun h => by
      rcases Nat.lt_or_ge m (256 ^ k) with h1 | h1
      · rw [Nat.div_eq_of_lt h1] at h; omega
      · exact h1
    have hlt : ¬ 0 < m / 256 ^ k → m < 256 ^ k := fun h => by
      rcases Nat.lt_or_ge m (256 ^ k) with h1 | h1
      · exact h1
      · have := (Nat.le_div_iff_mul_le (Nat.pow_pos (by decide : 0 < 256))).2 (by rw [Nat.one_mul]; exact h1); omega
    have hle : m / 256 ^ k ≤ m := Nat.div_le_self _ _
    generalize m / 256 ^ k = q at *
    by_cases hq : 0 < q
    · have hqI : (0 : Int) < (q : Int) := by omega
      have hqb : (q : Int) ≤ 4611686018427387904 := by omega
      have h256 := hge hq
      have hk7 : k + 1 ≤ 8 := by
        rcases Nat.lt_or_ge k 8 with h | h
        · omega
        · obtain rfl : k = 8 := by omega
          have : (256 : Nat) ^ 8 = 18446744073709551616 := by decide
          omega
      have hown0 : (wr.alloc (.cells #[.int .u8 ((q : Int) % 256)] 5)).ownsRow w.heap.size 5 1 (.slice (some ⟨wr.heap.size, 0, none⟩) 1 1) 1 [.int .u8 ((q : Int) % 256)] :=
        World.ownsRow_lit (base := w.heap.size) (e := 5) (size := 1) wr #[.int .u8 ((q : Int) % 256)] 1 hbr.size (by simp [maxLen]) (by simp)
      have hbA : Below wr.heap.size wr (wr.alloc (.cells #[.int .u8 ((q : Int) % 256)] 5)) := (Below.refl _ _).alloc (Nat.le_refl _) _
      have hso := (Sl.of_owns hown).below hbA (Nat.le_refl _)
      obtain ⟨oa, on, oc, rfl⟩ := hso.val
      have hbr2 := hbr.trans (hbA.mono hbr.size)
      have HS2 := Lib.hid hbr2.size
      have HX := Lib.hid (show Value.int .u8 ((q : Int) % 256) :: (offI m k).map (Value.int .u8) = (offI m (k + 1)).map (Value.int .u8) by rw [offI_succ, hdg]; simp)
      have HNX := Lib.hid hnx
      have HK := Lib.hid h256
      have hol := offI_len m k
      clear hge hlt hnx hdg hown hbA h256
      go_wp2_with (at_builtin; go_loud (refine wpList_append_sl rfl _ _ 22 rfl w.heap.size 5 i0 (.int .u8 0) 1 Tryz.underlying22 hi hz0 hz1 hz2 rfl _ _ _ rfl hown0 (.slice oa on oc) ((offI m k).map (Value.int .u8)) rfl hso (one8 _) (by rw [List.length_map, hol]; unfold maxLen; omega) (by rw [List.length_map, hol]; omega) HS2.out ?_))
      intro v5 w5 hown5 hg5
      have hb5 := below_grown hbr2 hown0 (Nat.le_refl _) HS2.out hg5
      clear hg5 hown0 hso
      rw [HX.out, Nat.add_comm 1 k] at hown5
      go_wp2
      exact ⟨⟨k + 1, _, rfl, by rw [HNX.out]; simp, hk7, .inr (by simpa using HK.out), hown5, hb5⟩, by simp [intOf]; omega⟩
    · have hqI : ¬ (0 : Int) < (q : Int) := by omega
      have hw := width_of k m (hlt hq) hlow.out (by omega)
      have HU := Lib.hid (show (k : Int) :: offI m k = uintN m by unfold uintN; rw [hw, offI_be])
      have hownA : (wr.alloc (.cells #[] 5)).ownsRow wr.heap.size 5 1 (.slice (some ⟨wr.heap.size, 0, none⟩) 0 0) 0 [] :=
        World.ownsRow_lit (base := wr.heap.size) (e := 5) (size := 1) wr #[] 0 (Nat.le_refl _) (by simp [maxLen]) (by simp)
      have hbA : Below wr.heap.size wr (wr.alloc (.cells #[] 5)) := (Below.refl _ _).alloc (Nat.le_refl _) _
      have hsA := (hs.below hbr (Nat.le_refl _)).below hbA (Nat.le_refl _)
      have hso := Sl.of_owns hown
      obtain ⟨oa, on, oc, rfl⟩ := hso.val
      have hon : on = k := by obtain ⟨_, _, he, _⟩ := hso; rw [List.length_map, offI_len] at he; injection he
      subst hon
      have hol := offI_len m on
      have HWS := Lib.hid (show wr.heap.size ≤ (wr.alloc (.cells #[] 5)).heap.size by simp)
      clear hge hlt hnx hdg hle hown
      go_wp2_with (at_builtin; go_loud (refine wpList_append_sl rfl _ _ 22 rfl wr.heap.size 5 i0 (.int .u8 0) 1 Tryz.underlying22 hi hz0 hz1 hz2 rfl _ _ _ rfl hownA (.slice va bs.length vc) (bs.map (Value.int .u8)) rfl hsA (one8 _) (by rw [List.length_map]; unfold maxLen; omega) (by rw [List.length_map]; omega) HWS.out ?_))
      intro v5 w5 hown5 hg5
      have hb5 := below_grown hbA hownA (Nat.le_refl _) HWS.out hg5
      have hsz5 := hb5.size
      clear hg5 hownA hsA HWS hbA
      go_wp2_with (at_builtin; go_loud (refine wpList_append_sl rfl _ _ 22 rfl wr.heap.size 5 i0 (.int .u8 0) 1 Tryz.underlying22 hi hz0 hz1 hz2 rfl _ _ _ rfl (hown5.alloc _) (.slice (some ⟨w5.heap.size, 0, none⟩) 1 1) ([(on : Int)].map (Value.int .u8)) rfl (Sl.litL w5 ([(on : Int)].map (Value.int .u8)) 5 (by simp [maxLen])) (one8 _) (by simp; unfold maxLen; omega) (by simp; omega) (by simp; omega) ?_))
      intro v6 w6 hown6 hg6
      have hb6 := below_grown (hb5.alloc hb5.size _) (hown5.alloc _) (Nat.le_refl _) (by simp; omega) hg6
      have hso6 := hso.below hb6 (Nat.le_refl _)
      have hsz6 := hb6.size
      clear hg6 hown5 hb5
      go_wp2_with (at_builtin; go_loud (refine wpList_append_sl rfl _ _ 22 rfl wr.heap.size 5 i0 (.int .u8 0) 1 Tryz.underlying22 hi hz0 hz1 hz2 rfl _ _ _ rfl hown6 (.slice oa on oc) ((offI m on).map (Value.int .u8)) rfl hso6 (one8 _) (by rw [List.length_map, hol]; unfold maxLen; simp; omega) (by rw [List.length_map, hol]; simp; omega) hsz6 ?_))
      intro v7 w7 hown7 hg7
      have hb7 := below_grown hb6 hown6 (Nat.le_refl _) hsz6 hg7
      have hlen : bs.length + 1 + on = bs.length + (uintN m).length := by rw [← HU.out, List.length_cons, offI_len]; omega
      have hlst : bs.map (Value.int .u8) ++ Value.int .u8 (on : Int) :: (offI m on).map (Value.int .u8) = (bs ++ uintN m).map (Value.int .u8) := by rw [← HU.out]; simp
      rw [hlen, hlst] at hown7
      have HF := Lib.hid (ownsRow_base hown7 hbr.size)
      have hbf := hbr.trans (hb7.mono hbr.size)
      clear hown7 hg7 hlen hlst hown6 hso6 hso
      go_wp2
      go_ret
      exact ⟨_, rfl, HF.out, hbf⟩

set_option maxRecDepth 100000 in
set_option maxHeartbeats 1000000 in
theorem rbytes_any (v : Value) (bs : List Int) (u : Value) (xs : List Int) (w : World) (hn : bs.length + xs.length ≤ 100000000000000) (hs : Sl w v (bs.map (Value.int .u8))) (hu : Sl w u (xs.map (Value.int .u8))) :
    Calls Tryz.prog 22 #[v, u] w fun e w' => ∃ v', e = .returned v' ∧ w'.ownsRow w.heap.size 5 1 v' (bs ++ bytesI xs).length ((bs ++ bytesI xs).map (Value.int .u8)) ∧ Below w.heap.size w w' := by
  obtain ⟨ua, uc, rfl, huc, hum⟩ := hu.shape
  simp only [List.length_map] at *
  have hwl : width xs.length ≤ 8 := by unfold width; have := Lib.bitLen_le xs.length 63 (by omega) (by omega); omega
  have HU := Lib.hid (ruint_any v bs xs.length w (by omega) hs (by omega) (by omega))
  rw [Int.toNat_natCast] at HU
  have hul : (uintN xs.length).length ≤ 9 := by unfold uintN; rw [List.length_cons, beI_len]; omega
  have HEQ := Lib.hid (show bs.map (Value.int .u8) ++ ((uintN xs.length).map (Value.int .u8) ++ xs.map (Value.int .u8)) = (bs ++ bytesI xs).map (Value.int .u8) by unfold bytesI; simp)
  have HEL := Lib.hid (show bs.length + (uintN xs.length).length + xs.length = (bs ++ bytesI xs).length by unfold bytesI; simp; omega)
  generalize uintN xs.length = U at *
  generalize bs ++ bytesI xs = R at *
  obtain ⟨i0, hi, hz0, hz1, hz2⟩ := info_parts info8c
  go_enter Tryz.func22, Tryz.ntmps22
  go_wp2_with fail
  refine HU.out.mono ?_
  rintro e w2 ⟨v2, rfl, hown, hb2⟩
  have hu2 := hu.below hb2 (Nat.le_refl _)
  have hsz2 := hb2.size
  go_wp2_with (at_builtin; refine wpList_append_sl rfl _ _ 22 rfl w.heap.size 5 i0 (.int .u8 0) 1 Tryz.underlying22 hi hz0 hz1 hz2 rfl _ _ _ rfl hown (.slice ua xs.length uc) (xs.map (Value.int .u8)) rfl hu2 (one8 _) (by simp; unfold maxLen; omega) (by simp; omega) hsz2 ?_)
  intro v3 w3 hown3 hg3
  have hb3 := below_grown hb2 hown (Nat.le_refl _) hsz2 hg3
  rw [HEQ.out, HEL.out] at hown3
  clear hg3 hown
  go_wp2
  go_ret
  exact ⟨_, rfl, hown3, hb3⟩

end Go.Proofs.YtjhannlioddkkaaGreatDoor
