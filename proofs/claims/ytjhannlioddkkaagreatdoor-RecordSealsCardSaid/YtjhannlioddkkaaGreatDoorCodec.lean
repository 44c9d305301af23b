
/- The codec: numbers and texts put behind bytes (the program's). -/
import Derived.Test.YtjhannlioddkkaaGreatDoorClone
import Derived.Test.YtjhannlioddkkaaGreatDoorApp
import Derived.Test.YtjhannlioddkkaaGreatDoorLen64
namespace Go.Proofs.YtjhannlioddkkaaGreatDoor
open Go.RowKit
set_option linter.unusedVariables false

/-- slices.Clone, with its row. -/
theorem sclone_own (v : Value) (bs : List Int) (w : World) (hn : bs.length ≤ 140737488351232) (hs : Sl w v (bs.map (Value.int .u8))) :
    Calls Tryz.prog 41 #[v] w fun e w' => ∃ v', e = .returned v' ∧ w'.ownsRow w.heap.size 5 1 v' bs.length (bs.map (Value.int .u8)) ∧ Below w.heap.size w w' := by
  have hs0 := hs
  obtain ⟨ad, cap, rfl, hc1, hcm, hc⟩ := hs0
  simp only [List.length_map] at *
  obtain ⟨i0, hi, hz0, hz1, hz2⟩ := info_parts info8c
  have HN := Lib.hid hn
  clear hn
  cases ad with
  | none =>
    have hl0 : bs.length = 0 := by
      rcases Nat.eq_zero_or_pos bs.length with h0 | h0
      · exact h0
      · obtain ⟨b, off, hab, _⟩ := hc h0; cases hab
    obtain rfl : bs = [] := List.length_eq_zero_iff.1 hl0
    have he : ∀ w : World, (binOp .eql 22 (.slice none 0 cap) (.slice none 0 0)).run Tryz.prog w = .ok (.bool true) w := fun w => Lib.run_eql_slice_nil w 22 5 none _ _ _ _ Tryz.underlying22
    simp only [List.length_nil]
    go_enter Tryz.func41, Tryz.ntmps41
    go_wp2
    go_ret
    exact ⟨_, rfl, World.ownsRow_nil _ _ _ _, Below.refl _ _⟩
  | some ad =>
    have hown0 : (w.alloc (.cells #[] 5)).ownsRow w.heap.size 5 1 (.slice (some ⟨w.heap.size, 0, none⟩) 0 0) 0 [] :=
      World.ownsRow_lit (base := w.heap.size) (e := 5) (size := 1) w #[] 0 (Nat.le_refl _) (by simp [maxLen]) (by simp)
    have hb0 : Below w.heap.size w (w.alloc (.cells #[] 5)) := (Below.refl _ _).alloc (Nat.le_refl _) _
    have hs1 := hs.below hb0 (Nat.le_refl _)
    clear hc
    have he : ∀ w : World, (binOp .eql 22 (.slice (some ad) bs.length cap) (.slice none 0 0)).run Tryz.prog w = .ok (.bool false) w := fun w => Lib.run_eql_slice_nil w 22 5 (some ad) _ _ _ _ Tryz.underlying22
    go_enter Tryz.func41, Tryz.ntmps41
    go_wp2_with (at_builtin; go_loud (refine wpList_append_sl rfl _ _ 22 rfl w.heap.size 5 i0 (.int .u8 0) 1 Tryz.underlying22 hi hz0 hz1 hz2 rfl _ 0 [] rfl hown0 (.slice (some ad) bs.length cap) (bs.map (Value.int .u8)) rfl hs1 (one8 _) (by have := HN.out; rw [List.length_map]; unfold maxLen; omega) (by have := HN.out; rw [List.length_map]; omega) (by simp) ?_))
    intro v1 w4 hown1 hg4
    have hb4 := below_grown hb0 hown0 (Nat.le_refl _) (by simp) hg4
    clear hg4 hown0
    go_wp2
    go_ret
    exact ⟨_, rfl, by simpa using hown1, hb4⟩

/-- A number's digit to 256, its width, its bytes. -/
def dig (m i : Nat) : Int := ((m / 256 ^ i % 256 : Nat) : Int)
def width (m : Nat) : Nat := (Lib.bitLen m + 7) / 8
def beI (m w c : Nat) : List Int := (List.range c).map fun t => dig m (w - 1 - t)
def uintN (m : Nat) : List Int := (width m : Int) :: beI m (width m) (width m)
def clampN (n : Int) : Nat := (min (max n 0) 4611686018427387904).toNat
def uintI (n : Int) : List Int := uintN (clampN n)
theorem beI_succ (m w c : Nat) : beI m w (c + 1) = beI m w c ++ [dig m (w - 1 - c)] := by unfold beI; rw [List.range_succ, List.map_append]; rfl
theorem beI_len (m w c : Nat) : (beI m w c).length = c := by simp [beI]
theorem dig_isB (m i : Nat) : 0 ≤ dig m i ∧ dig m i ≤ 255 := by unfold dig; omega
theorem dig_shr (m j : Nat) : (m : Int) / 2 ^ (8 * j) % 256 = dig m j := by
  unfold dig
  rw [show (256 : Nat) ^ j = 2 ^ (8 * j) by rw [Nat.pow_mul]]
  simp
theorem beI_isB (m w c : Nat) : IsB (beI m w c) := fun x hx => by
  obtain ⟨t, _, rfl⟩ := List.mem_map.1 hx; exact dig_isB m _

theorem bitsLen_any (x : Int) (w : World) (h0 : 0 ≤ x) (h1 : x ≤ 18446744073709551615) :
    Calls Tryz.prog 61 #[.int .u64 x] w fun e w' => e = .returned (.int .i64 (Lib.bitLen x.toNat)) ∧ w = w' := by
  have H := Lib.hid (len64_any x w h0 h1)
  generalize Lib.bitLen x.toNat = L at *
  go_enter Tryz.func61, Tryz.ntmps61
  go_wp2_with fail
  refine H.out.mono ?_
  rintro e w1 ⟨rfl, rfl⟩
  go_wp2
  go_ret
  exact ⟨rfl, rfl⟩

set_option maxRecDepth 100000 in
set_option maxHeartbeats 1000000 in
theorem cuint_any (v : Value) (bs : List Int) (n : Int) (w : World) (hn : bs.length ≤ 100000000000000) (hs : Sl w v (bs.map (Value.int .u8))) (h0 : 0 ≤ n) (h1 : n ≤ 4611686018427387904) :
    Calls Tryz.prog 38 #[v, .int .i64 n] w fun e w' => ∃ v', e = .returned v' ∧ w'.ownsRow w.heap.size 5 1 v' (bs.length + (uintN n.toNat).length) ((bs ++ uintN n.toNat).map (Value.int .u8)) ∧ Below w.heap.size w w' := by
  obtain ⟨m, rfl⟩ : ∃ m : Nat, n = m := ⟨n.toNat, by omega⟩
  rw [Int.toNat_natCast]
  have HC := Lib.hid (sclone_own v bs w (by omega) hs)
  have HB := Lib.hid (fun w1 => bitsLen_any m w1 (by omega) (by omega))
  rw [Int.toNat_natCast] at HB
  have hL : Lib.bitLen m ≤ 63 := Lib.bitLen_le m 63 (by omega) (by omega)
  have hW : width m = (Lib.bitLen m + 7) / 8 := rfl
  generalize Lib.bitLen m = L at *
  unfold uintN
  generalize width m = W at *
  have hW8 : W ≤ 8 := by omega
  have HWL := Lib.hid (show ((L : Int) + 7) / 8 = (W : Int) by omega)
  clear hW
  obtain ⟨i0, hi, hz0, hz1, hz2⟩ := info_parts info8c
  have hBN : bs.length ≤ 100000000000000 := hn
  go_enter Tryz.func38, Tryz.ntmps38
  go_wp2_with fail
  rw [show min (m : Int) 4611686018427387904 = m by omega]
  refine (HB.out _).mono ?_
  rintro e w1 ⟨rfl, rfl⟩
  go_wp2_with fail
  rw [HWL.out]
  clear HWL
  refine HC.out.mono ?_
  rintro e w2 ⟨v2, rfl, hown, hb2⟩
  have hsz2 := hb2.size
  go_wp2_with (at_builtin; refine wpList_append_sl rfl _ _ 22 rfl w.heap.size 5 i0 (.int .u8 0) 1 Tryz.underlying22 hi hz0 hz1 hz2 rfl _ _ _ rfl (hown.alloc _) (.slice (some ⟨w2.heap.size, 0, none⟩) 1 1) ([(W : Int)].map (Value.int .u8)) rfl (Sl.litL w2 ([(W : Int)].map (Value.int .u8)) 5 (by simp [maxLen])) (one8 _) (by simp; unfold maxLen; omega) (by simp; omega) (by simp; omega) ?_)
  intro v3 w3 hown3 hg3
  have hb3 := below_grown (hb2.alloc hb2.size _) (hown.alloc _) (Nat.le_refl _) (by simp; omega) hg3
  clear hg3 hown hb2
  clear HC HB
  have hst : w3.ownsRow w.heap.size 5 1 v3 (bs.length + 1 + 0) ((bs ++ (W : Int) :: beI m W 0).map (Value.int .u8)) := by
    have e : (bs ++ (W : Int) :: beI m W 0).map (Value.int .u8) = bs.map (Value.int .u8) ++ [.int .u8 (W : Int)] := by simp [beI]
    rw [e]; exact hown3
  clear hown3
  go_wp2
  go_loopw [6, 7] (fun o i wr => ∃ (r : Nat) (ov : Value), ov = o ∧ r ≤ W ∧ (r = 0 ∧ i = .int .i64 (-1) ∨ ∃ j : Nat, r = j + 1 ∧ i = .int .i64 j) ∧ wr.ownsRow w.heap.size 5 1 ov (bs.length + 1 + (W - r)) ((bs ++ (W : Int) :: beI m W (W - r)).map (Value.int .u8)) ∧ Below w.heap.size w wr) (fun _ i _ => (intOf i + 1).toNat)
  case atStart =>
    refine ⟨W, _, rfl, Nat.le_refl _, ?_, by rw [Nat.sub_self]; exact hst, hb3⟩
    rcases Nat.eq_zero_or_pos W with h | h
    · subst h; exact .inl ⟨rfl, by simp⟩
    · exact .inr ⟨W - 1, by omega, by rw [show ((W - 1 : Nat) : Int) = (W : Int) - 1 by omega]⟩
  case round =>
    obtain ⟨r, ov, rfl, hr, hcase, hown, hbr⟩ := hrel
    rcases hcase with ⟨rfl, rfl⟩ | ⟨j, rfl, rfl⟩
    · rw [Nat.sub_zero] at hown
      have hfin : Hid (wr.ownsRow w.heap.size 5 1 ov (bs.length + ((W : Int) :: beI m W W).length) ((bs ++ (W : Int) :: beI m W W).map (Value.int .u8))) := by
        show World.ownsRow _ _ _ _ _ _ _
        rw [show bs.length + ((W : Int) :: beI m W W).length = bs.length + 1 + W by rw [List.length_cons, beI_len]; omega]
        exact hown
      clear hown
      go_wp2
      go_ret
      exact ⟨_, rfl, hfin.out, hbr⟩
    · have hj7 : j ≤ 7 := by omega
      have HD := Lib.hid (dig_shr m j)
      have hLL : (bs ++ (W : Int) :: beI m W (W - (j + 1))).length = bs.length + 1 + (W - (j + 1)) := by rw [List.length_append, List.length_cons, beI_len]; omega
      have hst5 : bs.map (Value.int .u8) ++ Value.int .u8 (W : Int) :: ((beI m W (W - (j + 1))).map (Value.int .u8) ++ [Value.int .u8 ((m : Int) / 2 ^ (8 * j) % 256)]) = (bs ++ (W : Int) :: beI m W (W - j)).map (Value.int .u8) := by
        rw [dig_shr, show W - j = (W - (j + 1)) + 1 by omega, beI_succ, show W - 1 - (W - (j + 1)) = j by omega]
        simp
      have HST := Lib.hid hst5
      have hn5 : bs.length + 1 + (W - (j + 1)) + 1 = bs.length + 1 + (W - j) := by omega
      have HN5 := Lib.hid hn5
      clear hst5 hn5
      go_wp2_with (at_builtin; refine wpList_append_sl rfl _ _ 22 rfl w.heap.size 5 i0 (.int .u8 0) 1 Tryz.underlying22 hi hz0 hz1 hz2 rfl _ _ _ rfl (hown.alloc _) (.slice (some ⟨wr.heap.size, 0, none⟩) 1 1) ([(m : Int) / 2 ^ (8 * j) % 256].map (Value.int .u8)) rfl (Sl.litL wr ([(m : Int) / 2 ^ (8 * j) % 256].map (Value.int .u8)) 5 (by simp [maxLen])) (one8 _) (by simp; unfold maxLen; omega) (by simp; omega) (by have := hbr.size; simp; omega) ?_)
      intro v5 w5 hown5 hg5
      have hb5 := below_grown (hbr.alloc hbr.size _) (hown.alloc _) (Nat.le_refl _) (by have := hbr.size; simp; omega) hg5
      rw [HST.out, HN5.out] at hown5
      clear hg5 hown
      have HO := Lib.hid hown5
      clear hown5
      go_wp2
      refine ⟨⟨j, _, rfl, by omega, ?_, HO.out, hb5⟩, by simp [intOf]⟩
      rcases Nat.eq_zero_or_pos j with h | h
      · subst h; exact .inl ⟨rfl, by simp⟩
      · exact .inr ⟨j - 1, by omega, by rw [show ((j - 1 : Nat) : Int) = (j : Int) - 1 by omega]⟩

def bytesI (s : List Int) : List Int := uintN s.length ++ s

set_option maxRecDepth 100000 in
set_option maxHeartbeats 1000000 in
theorem cbytes_any (v : Value) (bs : List Int) (u : Value) (xs : List Int) (w : World) (hn : bs.length + xs.length ≤ 100000000000000) (hs : Sl w v (bs.map (Value.int .u8))) (hu : Sl w u (xs.map (Value.int .u8))) :
    Calls Tryz.prog 18 #[v, u] w fun e w' => ∃ v', e = .returned v' ∧ w'.ownsRow w.heap.size 5 1 v' (bs ++ bytesI xs).length ((bs ++ bytesI xs).map (Value.int .u8)) ∧ Below w.heap.size w w' := by
  obtain ⟨ua, uc, rfl, huc, hum⟩ := hu.shape
  simp only [List.length_map] at *
  have hwl : width xs.length ≤ 8 := by unfold width; have := Lib.bitLen_le xs.length 63 (by omega) (by omega); omega
  have HU := Lib.hid (cuint_any v bs xs.length w (by omega) hs (by omega) (by omega))
  rw [Int.toNat_natCast] at HU
  have hul : (uintN xs.length).length ≤ 9 := by unfold uintN; rw [List.length_cons, beI_len]; omega
  have HEQ := Lib.hid (show bs.map (Value.int .u8) ++ ((uintN xs.length).map (Value.int .u8) ++ xs.map (Value.int .u8)) = (bs ++ bytesI xs).map (Value.int .u8) by unfold bytesI; simp)
  have HEL := Lib.hid (show bs.length + (uintN xs.length).length + xs.length = (bs ++ bytesI xs).length by unfold bytesI; simp; omega)
  generalize uintN xs.length = U at *
  generalize bs ++ bytesI xs = R at *
  obtain ⟨i0, hi, hz0, hz1, hz2⟩ := info_parts info8c
  go_enter Tryz.func18, Tryz.ntmps18
  go_wp2_with fail
  refine HU.out.mono ?_
  rintro e w2 ⟨v2, rfl, hown, hb2⟩
  have hu2 := hu.below hb2 (Nat.le_refl _)
  have hsz2 := hb2.size
  go_wp2_with (at_builtin; refine wpList_append_sl rfl _ _ 22 rfl w.heap.size 5 i0 (.int .u8 0) 1 Tryz.underlying22 hi hz0 hz1 hz2 rfl _ _ _ rfl hown (.slice ua xs.length uc) (xs.map (Value.int .u8)) rfl hu2 (one8 _) (by simp; unfold maxLen; omega) (by simp; omega) hsz2 ?_)
  intro v3 w3 hown3 hg3
  have hb3 := below_grown hb2 hown (Nat.le_refl _) hsz2 hg3
  rw [HEQ.out, HEL.out] at hown3
  clear hg3 hown
  go_wp2
  go_ret
  exact ⟨_, rfl, hown3, hb3⟩

end Go.Proofs.YtjhannlioddkkaaGreatDoor
