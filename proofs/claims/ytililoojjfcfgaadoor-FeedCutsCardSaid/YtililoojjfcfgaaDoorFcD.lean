/- The codec: numbers and texts put behind bytes (the program's). The codec's reader: the program's walks. The codec's reader: the program's walks. The codec: the reference's numbers and texts put behind bytes. Trees of signing keys: what their levels are, and lists of lists of texts that a call makes. Conditions: none. -/
import Derived.Test.YtililoojjfcfgaaDoorClone
import Derived.Test.YtililoojjfcfgaaDoorApp
import Derived.Test.YtililoojjfcfgaaDoorLen64
import Derived.Test.YtililoojjfcfgaaDoorBytes
import Derived.Test.YtililoojjfcfgaaDoorFcA
import Derived.Deep.QuietTactic
import Derived.BigQuiet
import Derived.Test.YtililoojjfcfgaaDoorFcB
import Derived.Test.YtililoojjfcfgaaDoorFcC
namespace Go.Proofs.YtililoojjfcfgaaDoor
open Go.RowKit
set_option linter.unusedVariables false

/-- slices.Clone, with its row. -/
theorem sclone_own (v : Value) (bs : List Int) (w : World) (hn : bs.length ≤ 140737488351232) (hs : Sl w v (bs.map (Value.int .u8))) :
    Calls Tryd.prog 69 #[v] w fun e w' => ∃ v', e = .returned v' ∧ w'.ownsRow w.heap.size 5 1 v' bs.length (bs.map (Value.int .u8)) ∧ Below w.heap.size w w' := by
  have hs0 := hs
  obtain ⟨ad, cap, rfl, hc1, hcm, hc⟩ := hs0
  simp only [List.length_map] at *
  obtain ⟨i0, hi, hz0, hz1, hz2⟩ := info_parts info8c
  have HN := Lib.hid hn
  clear hn
  cases ad with
  | none =>
    have hl0 : bs.length = 0 := by
      rcases Nat.eq_zero_or_pos bs.length with h0 | h0
      · exact h0
      · obtain ⟨b, off, hab, _⟩ := hc h0; cases hab
    obtain rfl : bs = [] := List.length_eq_zero_iff.1 hl0
    have he : ∀ w : World, (binOp .eql 22 (.slice none 0 cap) (.slice none 0 0)).run Tryd.prog w = .ok (.bool true) w := fun w => Lib.run_eql_slice_nil w 22 5 none _ _ _ _ Tryd.underlying22
    simp only [List.length_nil]
    go_enter Tryd.func69, Tryd.ntmps69
    go_wp2
    go_ret
    exact ⟨_, rfl, World.ownsRow_nil _ _ _ _, Below.refl _ _⟩
  | some ad =>
    have hown0 : (w.alloc (.cells #[] 5)).ownsRow w.heap.size 5 1 (.slice (some ⟨w.heap.size, 0, none⟩) 0 0) 0 [] :=
      World.ownsRow_lit (base := w.heap.size) (e := 5) (size := 1) w #[] 0 (Nat.le_refl _) (by simp [maxLen]) (by simp)
    have hb0 : Below w.heap.size w (w.alloc (.cells #[] 5)) := (Below.refl _ _).alloc (Nat.le_refl _) _
    have hs1 := hs.below hb0 (Nat.le_refl _)
    clear hc
    have he : ∀ w : World, (binOp .eql 22 (.slice (some ad) bs.length cap) (.slice none 0 0)).run Tryd.prog w = .ok (.bool false) w := fun w => Lib.run_eql_slice_nil w 22 5 (some ad) _ _ _ _ Tryd.underlying22
    go_enter Tryd.func69, Tryd.ntmps69
    go_wp2_with (at_builtin; go_loud (refine wpList_append_sl rfl _ _ 22 rfl w.heap.size 5 i0 (.int .u8 0) 1 Tryd.underlying22 hi hz0 hz1 hz2 rfl _ 0 [] rfl hown0 (.slice (some ad) bs.length cap) (bs.map (Value.int .u8)) rfl hs1 (one8 _) (by have := HN.out; rw [List.length_map]; unfold maxLen; omega) (by have := HN.out; rw [List.length_map]; omega) (by simp) ?_))
    intro v1 w4 hown1 hg4
    have hb4 := below_grown hb0 hown0 (Nat.le_refl _) (by simp) hg4
    clear hg4 hown0
    go_wp2
    go_ret
    exact ⟨_, rfl, by simpa using hown1, hb4⟩

/-- A number's digit to 256, its width, its bytes. -/
def dig (m i : Nat) : Int := ((m / 256 ^ i % 256 : Nat) : Int)
def width (m : Nat) : Nat := (Lib.bitLen m + 7) / 8
def beI (m w c : Nat) : List Int := (List.range c).map fun t => dig m (w - 1 - t)
def uintN (m : Nat) : List Int := (width m : Int) :: beI m (width m) (width m)
def clampN (n : Int) : Nat := (min (max n 0) 4611686018427387904).toNat
def uintI (n : Int) : List Int := uintN (clampN n)
theorem beI_succ (m w c : Nat) : beI m w (c + 1) = beI m w c ++ [dig m (w - 1 - c)] := by unfold beI; rw [List.range_succ, List.map_append]; rfl
theorem beI_len (m w c : Nat) : (beI m w c).length = c := by simp [beI]
theorem dig_isB (m i : Nat) : 0 ≤ dig m i ∧ dig m i ≤ 255 := by unfold dig; omega
theorem dig_shr (m j : Nat) : (m : Int) / 2 ^ (8 * j) % 256 = dig m j := by
  unfold dig
  rw [show (256 : Nat) ^ j = 2 ^ (8 * j) by rw [Nat.pow_mul]]
  simp
theorem beI_isB (m w c : Nat) : IsB (beI m w c) := fun x hx => by
  obtain ⟨t, _, rfl⟩ := List.mem_map.1 hx; exact dig_isB m _

theorem bitsLen_any (x : Int) (w : World) (h0 : 0 ≤ x) (h1 : x ≤ 18446744073709551615) :
    Calls Tryd.prog 100 #[.int .u64 x] w fun e w' => e = .returned (.int .i64 (Lib.bitLen x.toNat)) ∧ w = w' := by
  have H := Lib.hid (len64_any x w h0 h1)
  generalize Lib.bitLen x.toNat = L at *
  go_enter Tryd.func100, Tryd.ntmps100
  go_wp2_with fail
  refine H.out.mono ?_
  rintro e w1 ⟨rfl, rfl⟩
  go_wp2
  go_ret
  exact ⟨rfl, rfl⟩

set_option maxRecDepth 100000 in
set_option maxHeartbeats 1000000 in
theorem cuint_any (v : Value) (bs : List Int) (n : Int) (w : World) (hn : bs.length ≤ 100000000000000) (hs : Sl w v (bs.map (Value.int .u8))) (h0 : 0 ≤ n) (h1 : n ≤ 4611686018427387904) :
    Calls Tryd.prog 55 #[v, .int .i64 n] w fun e w' => ∃ v', e = .returned v' ∧ w'.ownsRow w.heap.size 5 1 v' (bs.length + (uintN n.toNat).length) ((bs ++ uintN n.toNat).map (Value.int .u8)) ∧ Below w.heap.size w w' := by
  obtain ⟨m, rfl⟩ : ∃ m : Nat, n = m := ⟨n.toNat, by omega⟩
  rw [Int.toNat_natCast]
  have HC := Lib.hid (sclone_own v bs w (by omega) hs)
  have HB := Lib.hid (fun w1 => bitsLen_any m w1 (by omega) (by omega))
  rw [Int.toNat_natCast] at HB
  have hL : Lib.bitLen m ≤ 63 := Lib.bitLen_le m 63 (by omega) (by omega)
  have hW : width m = (Lib.bitLen m + 7) / 8 := rfl
  generalize Lib.bitLen m = L at *
  unfold uintN
  generalize width m = W at *
  have hW8 : W ≤ 8 := by omega
  have HWL := Lib.hid (show ((L : Int) + 7) / 8 = (W : Int) by omega)
  clear hW
  obtain ⟨i0, hi, hz0, hz1, hz2⟩ := info_parts info8c
  have hBN : bs.length ≤ 100000000000000 := hn
  go_enter Tryd.func55, Tryd.ntmps55
  go_wp2_with fail
  rw [show min (m : Int) 4611686018427387904 = m by omega]
  refine (HB.out _).mono ?_
  rintro e w1 ⟨rfl, rfl⟩
  go_wp2_with fail
  rw [HWL.out]
  clear HWL
  refine HC.out.mono ?_
  rintro e w2 ⟨v2, rfl, hown, hb2⟩
  have hsz2 := hb2.size
  go_wp2_with (at_builtin; refine wpList_append_sl rfl _ _ 22 rfl w.heap.size 5 i0 (.int .u8 0) 1 Tryd.underlying22 hi hz0 hz1 hz2 rfl _ _ _ rfl (hown.alloc _) (.slice (some ⟨w2.heap.size, 0, none⟩) 1 1) ([(W : Int)].map (Value.int .u8)) rfl (Sl.litL w2 ([(W : Int)].map (Value.int .u8)) 5 (by simp [maxLen])) (one8 _) (by simp; unfold maxLen; omega) (by simp; omega) (by simp; omega) ?_)
  intro v3 w3 hown3 hg3
  have hb3 := below_grown (hb2.alloc hb2.size _) (hown.alloc _) (Nat.le_refl _) (by simp; omega) hg3
  clear hg3 hown hb2
  clear HC HB
  have hst : w3.ownsRow w.heap.size 5 1 v3 (bs.length + 1 + 0) ((bs ++ (W : Int) :: beI m W 0).map (Value.int .u8)) := by
    have e : (bs ++ (W : Int) :: beI m W 0).map (Value.int .u8) = bs.map (Value.int .u8) ++ [.int .u8 (W : Int)] := by simp [beI]
    rw [e]; exact hown3
  clear hown3
  go_wp2
  go_loopw [6, 7] (fun o i wr => ∃ (r : Nat) (ov : Value), ov = o ∧ r ≤ W ∧ (r = 0 ∧ i = .int .i64 (-1) ∨ ∃ j : Nat, r = j + 1 ∧ i = .int .i64 j) ∧ wr.ownsRow w.heap.size 5 1 ov (bs.length + 1 + (W - r)) ((bs ++ (W : Int) :: beI m W (W - r)).map (Value.int .u8)) ∧ Below w.heap.size w wr) (fun _ i _ => (intOf i + 1).toNat)
  case atStart =>
    refine ⟨W, _, rfl, Nat.le_refl _, ?_, by rw [Nat.sub_self]; exact hst, hb3⟩
    rcases Nat.eq_zero_or_pos W with h | h
    · subst h; exact .inl ⟨rfl, by simp⟩
    · exact .inr ⟨W - 1, by omega, by rw [show ((W - 1 : Nat) : Int) = (W : Int) - 1 by omega]⟩
  case round =>
    obtain ⟨r, ov, rfl, hr, hcase, hown, hbr⟩ := hrel
    rcases hcase with ⟨rfl, rfl⟩ | ⟨j, rfl, rfl⟩
    · rw [Nat.sub_zero] at hown
      have hfin : Hid (wr.ownsRow w.heap.size 5 1 ov (bs.length + ((W : Int) :: beI m W W).length) ((bs ++ (W : Int) :: beI m W W).map (Value.int .u8))) := by
        show World.ownsRow _ _ _ _ _ _ _
        rw [show bs.length + ((W : Int) :: beI m W W).length = bs.length + 1 + W by rw [List.length_cons, beI_len]; omega]
        exact hown
      clear hown
      go_wp2
      go_ret
      exact ⟨_, rfl, hfin.out, hbr⟩
    · have hj7 : j ≤ 7 := by omega
      have HD := Lib.hid (dig_shr m j)
      have hLL : (bs ++ (W : Int) :: beI m W (W - (j + 1))).length = bs.length + 1 + (W - (j + 1)) := by rw [List.length_append, List.length_cons, beI_len]; omega
      have hst5 : bs.map (Value.int .u8) ++ Value.int .u8 (W : Int) :: ((beI m W (W - (j + 1))).map (Value.int .u8) ++ [Value.int .u8 ((m : Int) / 2 ^ (8 * j) % 256)]) = (bs ++ (W : Int) :: beI m W (W - j)).map (Value.int .u8) := by
        rw [dig_shr, show W - j = (W - (j + 1)) + 1 by omega, beI_succ, show W - 1 - (W - (j + 1)) = j by omega]
        simp
      have HST := Lib.hid hst5
      have hn5 : bs.length + 1 + (W - (j + 1)) + 1 = bs.length + 1 + (W - j) := by omega
      have HN5 := Lib.hid hn5
      clear hst5 hn5
      go_wp2_with (at_builtin; refine wpList_append_sl rfl _ _ 22 rfl w.heap.size 5 i0 (.int .u8 0) 1 Tryd.underlying22 hi hz0 hz1 hz2 rfl _ _ _ rfl (hown.alloc _) (.slice (some ⟨wr.heap.size, 0, none⟩) 1 1) ([(m : Int) / 2 ^ (8 * j) % 256].map (Value.int .u8)) rfl (Sl.litL wr ([(m : Int) / 2 ^ (8 * j) % 256].map (Value.int .u8)) 5 (by simp [maxLen])) (one8 _) (by simp; unfold maxLen; omega) (by simp; omega) (by have := hbr.size; simp; omega) ?_)
      intro v5 w5 hown5 hg5
      have hb5 := below_grown (hbr.alloc hbr.size _) (hown.alloc _) (Nat.le_refl _) (by have := hbr.size; simp; omega) hg5
      rw [HST.out, HN5.out] at hown5
      clear hg5 hown
      have HO := Lib.hid hown5
      clear hown5
      go_wp2
      refine ⟨⟨j, _, rfl, by omega, ?_, HO.out, hb5⟩, by simp [intOf]⟩
      rcases Nat.eq_zero_or_pos j with h | h
      · subst h; exact .inl ⟨rfl, by simp⟩
      · exact .inr ⟨j - 1, by omega, by rw [show ((j - 1 : Nat) : Int) = (j : Int) - 1 by omega]⟩

def bytesI (s : List Int) : List Int := uintN s.length ++ s

set_option maxRecDepth 100000 in
set_option maxHeartbeats 1000000 in
theorem cbytes_any (v : Value) (bs : List Int) (u : Value) (xs : List Int) (w : World) (hn : bs.length + xs.length ≤ 100000000000000) (hs : Sl w v (bs.map (Value.int .u8))) (hu : Sl w u (xs.map (Value.int .u8))) :
    Calls Tryd.prog 56 #[v, u] w fun e w' => ∃ v', e = .returned v' ∧ w'.ownsRow w.heap.size 5 1 v' (bs ++ bytesI xs).length ((bs ++ bytesI xs).map (Value.int .u8)) ∧ Below w.heap.size w w' := by
  obtain ⟨ua, uc, rfl, huc, hum⟩ := hu.shape
  simp only [List.length_map] at *
  have hwl : width xs.length ≤ 8 := by unfold width; have := Lib.bitLen_le xs.length 63 (by omega) (by omega); omega
  have HU := Lib.hid (cuint_any v bs xs.length w (by omega) hs (by omega) (by omega))
  rw [Int.toNat_natCast] at HU
  have hul : (uintN xs.length).length ≤ 9 := by unfold uintN; rw [List.length_cons, beI_len]; omega
  have HEQ := Lib.hid (show bs.map (Value.int .u8) ++ ((uintN xs.length).map (Value.int .u8) ++ xs.map (Value.int .u8)) = (bs ++ bytesI xs).map (Value.int .u8) by unfold bytesI; simp)
  have HEL := Lib.hid (show bs.length + (uintN xs.length).length + xs.length = (bs ++ bytesI xs).length by unfold bytesI; simp; omega)
  generalize uintN xs.length = U at *
  generalize bs ++ bytesI xs = R at *
  obtain ⟨i0, hi, hz0, hz1, hz2⟩ := info_parts info8c
  go_enter Tryd.func56, Tryd.ntmps56
  go_wp2_with fail
  refine HU.out.mono ?_
  rintro e w2 ⟨v2, rfl, hown, hb2⟩
  have hu2 := hu.below hb2 (Nat.le_refl _)
  have hsz2 := hb2.size
  go_wp2_with (at_builtin; refine wpList_append_sl rfl _ _ 22 rfl w.heap.size 5 i0 (.int .u8 0) 1 Tryd.underlying22 hi hz0 hz1 hz2 rfl _ _ _ rfl hown (.slice ua xs.length uc) (xs.map (Value.int .u8)) rfl hu2 (one8 _) (by simp; unfold maxLen; omega) (by simp; omega) hsz2 ?_)
  intro v3 w3 hown3 hg3
  have hb3 := below_grown hb2 hown (Nat.le_refl _) hsz2 hg3
  rw [HEQ.out, HEL.out] at hown3
  clear hg3 hown
  go_wp2
  go_ret
  exact ⟨_, rfl, hown3, hb3⟩

end Go.Proofs.YtililoojjfcfgaaDoor

namespace Go.Proofs.YtililoojjfcfgaaDoor
open Go.RowKit
set_option linter.unusedVariables false

/-- Block g is a reader that was made: what is left of its bytes, its first error. -/
def Rd (w : World) (g : Nat) (bs : List Int) (e : Int) : Prop := ∃ v, Blk w g 139 #[.bool true, v, .int .i64 e] ∧ Sl w v (bs.map (Value.int .u8))

set_option maxHeartbeats 400000 in
theorem rnone_any (g : Nat) (v1 v2 : Value) (w : World) (h : Blk w g 139 #[.bool true, v1, v2]) :
    Calls Tryd.prog 120 #[.pointer (some ⟨g, 0, none⟩)] w fun e w' => e = .returned (.bool false) ∧ w = w' := by
  have q0 : w.cell? ⟨g, 0, none⟩ = some (.bool true) := h.cell 0
  go_enter Tryd.func120, Tryd.ntmps120
  go_wp2
  go_ret
  exact ⟨rfl, rfl⟩

set_option maxHeartbeats 400000 in
/-- All is well. -/
theorem rok_true (g : Nat) (v1 : Value) (er : Int) (w : World) (h : Blk w g 139 #[.bool true, v1, .int .i64 0]) :
    Calls Tryd.prog 102 #[.pointer (some ⟨g, 0, none⟩), .bool true, .int .i64 er] w fun e w' => e = .returned (.bool true) ∧ w = w' := by
  have q2 : w.cell? ⟨g, 2, none⟩ = some (.int .i64 0) := h.cell 2
  have HN := Lib.hid (rnone_any g _ _ w h)
  clear h
  go_enter Tryd.func102, Tryd.ntmps102
  go_wp2_with fail
  refine HN.out.mono ?_
  rintro e w1 ⟨rfl, rfl⟩
  go_wp2
  go_ret
  exact ⟨rfl, rfl⟩

set_option maxHeartbeats 400000 in
/-- There is an error already. -/
theorem rok_err (g : Nat) (v1 : Value) (so : Bool) (e0 er : Int) (w : World) (he : ¬ e0 = 0) (h : Blk w g 139 #[.bool true, v1, .int .i64 e0]) :
    Calls Tryd.prog 102 #[.pointer (some ⟨g, 0, none⟩), .bool so, .int .i64 er] w fun e w' => e = .returned (.bool false) ∧ w = w' := by
  have q2 : w.cell? ⟨g, 2, none⟩ = some (.int .i64 e0) := h.cell 2
  have HN := Lib.hid (rnone_any g _ _ w h)
  clear h
  cases so
  all_goals
    go_enter Tryd.func102, Tryd.ntmps102
    go_wp2_with fail
    refine HN.out.mono ?_
    rintro e w1 ⟨rfl, rfl⟩
    go_wp2
    go_ret
    exact ⟨ret_bool (by first | rfl | exact beq_false_of_ne he), rfl⟩

end Go.Proofs.YtililoojjfcfgaaDoor

namespace Go.Proofs.YtililoojjfcfgaaDoor
open Go.RowKit
set_option linter.unusedVariables false


set_option maxHeartbeats 400000 in
/-- An error comes. -/
theorem rok_fail (g : Nat) (v1 : Value) (er : Int) (w : World) (he : ¬ er = 0) (h : Blk w g 139 #[.bool true, v1, .int .i64 0]) :
    Calls Tryd.prog 102 #[.pointer (some ⟨g, 0, none⟩), .bool false, .int .i64 er] w fun e w' => e = .returned (.bool false) ∧ Blk w' g 139 #[.bool true, .slice none 0 0, .int .i64 er] ∧ w.grownBy w' (some g) := by
  have q2 : w.cell? ⟨g, 2, none⟩ = some (.int .i64 0) := h.cell 2
  have q1 : w.cell? ⟨g, 1, none⟩ = some v1 := h.cell 1
  have f2 := h.frozen 2
  have f1 := h.frozen 1
  have HN := Lib.hid (rnone_any g _ _ w h)
  have hk := (h.set_ 2 (.int .i64 er)).set_ 1 (.slice none 0 0)
  have hg : w.grownBy ((w.setCell ⟨g, 2, none⟩ (.int .i64 er)).setCell ⟨g, 1, none⟩ (.slice none 0 0)) (some g) := only_setCell (p := ⟨g, 1, none⟩) (only_setCell (p := ⟨g, 2, none⟩) (World.grownBy.refl w (some g)) (Or.inl rfl) (.int .i64 er)) (Or.inl rfl) (.slice none 0 0)
  have HK := Lib.hid hk
  have HG := Lib.hid hg
  clear h hk hg
  go_enter Tryd.func102, Tryd.ntmps102
  go_wp2_with fail
  refine HN.out.mono ?_
  rintro e w1 ⟨rfl, rfl⟩
  go_wp2
  go_ret
  exact ⟨ret_bool (beq_false_of_ne he), HK.out, HG.out⟩

theorem Sl.keepG {w w' : World} {v : Value} {bs : List Int} (hs : Sl w v (bs.map (Value.int .u8))) {g : Nat} {t : TypeId} {cs : Array Value} (hk : Blk w g t cs) (hcs : ∀ (j : Nat) (n : Int), cs[j]? ≠ some (.int .u8 n)) (hg : w.grownBy w' (some g)) : Sl w' v (bs.map (Value.int .u8)) := by
  obtain ⟨a, cap, rfl, h1, h2, h3⟩ := hs
  refine ⟨a, cap, rfl, h1, h2, fun hp => ?_⟩
  obtain ⟨b, off, rfl, hlt, hc⟩ := h3 hp
  have hne : some b ≠ some g := by
    intro he
    obtain rfl : b = g := by simpa using he
    have hl : 0 < bs.length := by simpa using hp
    have h0 := hc 0 (.int .u8 bs[0]) (by rw [List.getElem?_map, List.getElem?_eq_getElem hl]; rfl)
    rw [hk.cell] at h0
    exact hcs _ _ h0
  refine ⟨b, off, rfl, Nat.lt_of_lt_of_le hlt hg.size, fun j u hu => ?_⟩
  rw [hg.cell_far ⟨b, off + j, none⟩ hlt hne]
  exact hc j u hu

theorem rd_noB (v : Value) (hv : ∃ a n c, v = .slice a n c) (e : Int) : ∀ (j : Nat) (n : Int), (#[Value.bool true, v, .int .i64 e] : Array Value)[j]? ≠ some (.int .u8 n) := by
  obtain ⟨a, m, c, rfl⟩ := hv
  intro j n h
  match j, h with
  | 0, h => simp at h
  | 1, h => simp at h
  | 2, h => simp at h
  | j + 3, h => simp at h

end Go.Proofs.YtililoojjfcfgaaDoor

namespace Go.Proofs.YtililoojjfcfgaaDoor
open Go.RowKit
set_option linter.unusedVariables false

/-- The bytes that have come off a number behind k rounds, the last first. -/
def offI (m k : Nat) : List Int := (List.range k).reverse.map (dig m)
theorem offI_succ (m k : Nat) : offI m (k + 1) = dig m k :: offI m k := by unfold offI; rw [List.range_succ, List.reverse_append]; rfl
theorem offI_len (m k : Nat) : (offI m k).length = k := by simp [offI]
theorem offI_be (m k : Nat) : offI m k = beI m k k := by
  unfold offI beI
  apply List.ext_getElem
  · simp
  · intro i h1 h2
    simp [List.getElem_reverse]

theorem ownsRow_base {w : World} {b0 b1 : Nat} {e : TypeId} {size : Nat} {v : Value} {n : Nat} {xs : List Value} (h : w.ownsRow b1 e size v n xs) (hb : b0 ≤ b1) : w.ownsRow b0 e size v n xs := by
  obtain ⟨h1, h2⟩ := h
  refine ⟨h1, h2.imp id ?_⟩
  rintro ⟨g, cap, cur, hv, hg, hr⟩
  exact ⟨g, cap, cur, hv, by omega, hr⟩

theorem width_of : ∀ (k m : Nat), m < 256 ^ k → (k = 0 ∨ 256 ^ (k - 1) ≤ m) → m < 2 ^ 63 → width m = k
  | 0, m, h, _, _ => by
    obtain rfl : m = 0 := by simpa using h
    decide
  | 1, m, h, h2, _ => by
    have h3 : 1 ≤ m := by simpa using h2
    have h4 : m < 256 := by simpa using h
    have h5 := Lib.bitLen_half m (by omega) (by omega)
    have h6 := Lib.bitLen_le m 8 (by omega) (by omega)
    unfold width; omega
  | k + 2, m, h, h2, h3 => by
    have h4 : 256 ^ (k + 1) ≤ m := by simpa using h2
    have hp : 0 < 256 ^ k := Nat.pow_pos (by decide)
    rw [Nat.pow_succ] at h4
    have h5 : 256 ≤ m := by
      have := Nat.mul_le_mul_right 256 hp
      omega
    have ih := width_of (k + 1) (m / 256) (by rw [Nat.pow_succ] at h; exact Nat.div_lt_of_lt_mul (by rw [Nat.mul_comm]; exact h)) (.inr (by simpa using (Nat.le_div_iff_mul_le (by decide)).2 h4)) (by omega)
    have h6 := Lib.bitLen_shift8 m h5 (by omega)
    unfold width at *; omega

set_option maxRecDepth 100000 in
set_option maxHeartbeats 1000000 in
theorem ruint_any (v : Value) (bs : List Int) (n : Int) (w : World) (hn : bs.length ≤ 100000000000000) (hs : Sl w v (bs.map (Value.int .u8))) (h0 : 0 ≤ n) (h1 : n ≤ 4611686018427387904) :
    Calls Tryd.prog 84 #[v, .int .i64 n] w fun e w' => ∃ v', e = .returned v' ∧ w'.ownsRow w.heap.size 5 1 v' (bs.length + (uintN n.toNat).length) ((bs ++ uintN n.toNat).map (Value.int .u8)) ∧ Below w.heap.size w w' := by
  obtain ⟨m, rfl⟩ : ∃ m : Nat, n = m := ⟨n.toNat, by omega⟩
  rw [Int.toNat_natCast]
  obtain ⟨i0, hi, hz0, hz1, hz2⟩ := info_parts info8c
  obtain ⟨va, vc, rfl, _, _⟩ := hs.shape
  simp only [List.length_map] at *
  go_enter Tryd.func84, Tryd.ntmps84
  go_wp2
  go_loopw [1, 5] (fun i o wr => ∃ (k : Nat) (ov : Value), ov = o ∧ i = .int .i64 ((m / 256 ^ k : Nat) : Int) ∧ k ≤ 8 ∧ Hid (k = 0 ∨ 256 ^ (k - 1) ≤ m) ∧ wr.ownsRow w.heap.size 5 1 ov k ((offI m k).map (Value.int .u8)) ∧ Below w.heap.size w wr) (fun i _ _ => (intOf i).toNat)
  case atStart => exact ⟨0, _, rfl, by simp; omega, by omega, .inl rfl, World.ownsRow_nil _ _ _ _, Below.refl _ _⟩
  case round =>
    obtain ⟨k, ov, rfl, rfl, hk, hlow, hown, hbr⟩ := hrel
    have hnx : m / 256 ^ (k + 1) = m / 256 ^ k / 256 := by rw [Nat.pow_succ, Nat.div_div_eq_div_mul]
    have hdg : dig m k = ((m / 256 ^ k % 256 : Nat) : Int) := rfl
    have hge : 0 < m / 256 ^ k → 256 ^ k ≤ m := fun h => by
      rcases Nat.lt_or_ge m (256 ^ k) with h1 | h1
      · rw [Nat.div_eq_of_lt h1] at h; omega
      · exact h1
    have hlt : ¬ 0 < m / 256 ^ k → m < 256 ^ k := fun h => by
      rcases Nat.lt_or_ge m (256 ^ k) with h1 | h1
      · exact h1
      · have := (Nat.le_div_iff_mul_le (Nat.pow_pos (by decide : 0 < 256))).2 (by rw [Nat.one_mul]; exact h1); omega
    have hle : m / 256 ^ k ≤ m := Nat.div_le_self _ _
    generalize m / 256 ^ k = q at *
    by_cases hq : 0 < q
    · have hqI : (0 : Int) < (q : Int) := by omega
      have hqb : (q : Int) ≤ 4611686018427387904 := by omega
      have h256 := hge hq
      have hk7 : k + 1 ≤ 8 := by
        rcases Nat.lt_or_ge k 8 with h | h
        · omega
        · obtain rfl : k = 8 := by omega
          have : (256 : Nat) ^ 8 = 18446744073709551616 := by decide
          omega
      have hown0 : (wr.alloc (.cells #[.int .u8 ((q : Int) % 256)] 5)).ownsRow w.heap.size 5 1 (.slice (some ⟨wr.heap.size, 0, none⟩) 1 1) 1 [.int .u8 ((q : Int) % 256)] :=
        World.ownsRow_lit (base := w.heap.size) (e := 5) (size := 1) wr #[.int .u8 ((q : Int) % 256)] 1 hbr.size (by simp [maxLen]) (by simp)
      have hbA : Below wr.heap.size wr (wr.alloc (.cells #[.int .u8 ((q : Int) % 256)] 5)) := (Below.refl _ _).alloc (Nat.le_refl _) _
      have hso := (Sl.of_owns hown).below hbA (Nat.le_refl _)
      obtain ⟨oa, on, oc, rfl⟩ := hso.val
      have hbr2 := hbr.trans (hbA.mono hbr.size)
      have HS2 := Lib.hid hbr2.size
      have HX := Lib.hid (show Value.int .u8 ((q : Int) % 256) :: (offI m k).map (Value.int .u8) = (offI m (k + 1)).map (Value.int .u8) by rw [offI_succ, hdg]; simp)
      have HNX := Lib.hid hnx
      have HK := Lib.hid h256
      have hol := offI_len m k
      clear hge hlt hnx hdg hown hbA h256
      go_wp2_with (at_builtin; go_loud (refine wpList_append_sl rfl _ _ 22 rfl w.heap.size 5 i0 (.int .u8 0) 1 Tryd.underlying22 hi hz0 hz1 hz2 rfl _ _ _ rfl hown0 (.slice oa on oc) ((offI m k).map (Value.int .u8)) rfl hso (one8 _) (by rw [List.length_map, hol]; unfold maxLen; omega) (by rw [List.length_map, hol]; omega) HS2.out ?_))
      intro v5 w5 hown5 hg5
      have hb5 := below_grown hbr2 hown0 (Nat.le_refl _) HS2.out hg5
      clear hg5 hown0 hso
      rw [HX.out, Nat.add_comm 1 k] at hown5
      go_wp2
      exact ⟨⟨k + 1, _, rfl, by rw [HNX.out]; simp, hk7, .inr (by simpa using HK.out), hown5, hb5⟩, by simp [intOf]; omega⟩
    · have hqI : ¬ (0 : Int) < (q : Int) := by omega
      have hw := width_of k m (hlt hq) hlow.out (by omega)
      have HU := Lib.hid (show (k : Int) :: offI m k = uintN m by unfold uintN; rw [hw, offI_be])
      have hownA : (wr.alloc (.cells #[] 5)).ownsRow wr.heap.size 5 1 (.slice (some ⟨wr.heap.size, 0, none⟩) 0 0) 0 [] :=
        World.ownsRow_lit (base := wr.heap.size) (e := 5) (size := 1) wr #[] 0 (Nat.le_refl _) (by simp [maxLen]) (by simp)
      have hbA : Below wr.heap.size wr (wr.alloc (.cells #[] 5)) := (Below.refl _ _).alloc (Nat.le_refl _) _
      have hsA := (hs.below hbr (Nat.le_refl _)).below hbA (Nat.le_refl _)
      have hso := Sl.of_owns hown
      obtain ⟨oa, on, oc, rfl⟩ := hso.val
      have hon : on = k := by obtain ⟨_, _, he, _⟩ := hso; rw [List.length_map, offI_len] at he; injection he
      subst hon
      have hol := offI_len m on
      have HWS := Lib.hid (show wr.heap.size ≤ (wr.alloc (.cells #[] 5)).heap.size by simp)
      clear hge hlt hnx hdg hle hown
      go_wp2_with (at_builtin; go_loud (refine wpList_append_sl rfl _ _ 22 rfl wr.heap.size 5 i0 (.int .u8 0) 1 Tryd.underlying22 hi hz0 hz1 hz2 rfl _ _ _ rfl hownA (.slice va bs.length vc) (bs.map (Value.int .u8)) rfl hsA (one8 _) (by rw [List.length_map]; unfold maxLen; omega) (by rw [List.length_map]; omega) HWS.out ?_))
      intro v5 w5 hown5 hg5
      have hb5 := below_grown hbA hownA (Nat.le_refl _) HWS.out hg5
      have hsz5 := hb5.size
      clear hg5 hownA hsA HWS hbA
      go_wp2_with (at_builtin; go_loud (refine wpList_append_sl rfl _ _ 22 rfl wr.heap.size 5 i0 (.int .u8 0) 1 Tryd.underlying22 hi hz0 hz1 hz2 rfl _ _ _ rfl (hown5.alloc _) (.slice (some ⟨w5.heap.size, 0, none⟩) 1 1) ([(on : Int)].map (Value.int .u8)) rfl (Sl.litL w5 ([(on : Int)].map (Value.int .u8)) 5 (by simp [maxLen])) (one8 _) (by simp; unfold maxLen; omega) (by simp; omega) (by simp; omega) ?_))
      intro v6 w6 hown6 hg6
      have hb6 := below_grown (hb5.alloc hb5.size _) (hown5.alloc _) (Nat.le_refl _) (by simp; omega) hg6
      have hso6 := hso.below hb6 (Nat.le_refl _)
      have hsz6 := hb6.size
      clear hg6 hown5 hb5
      go_wp2_with (at_builtin; go_loud (refine wpList_append_sl rfl _ _ 22 rfl wr.heap.size 5 i0 (.int .u8 0) 1 Tryd.underlying22 hi hz0 hz1 hz2 rfl _ _ _ rfl hown6 (.slice oa on oc) ((offI m on).map (Value.int .u8)) rfl hso6 (one8 _) (by rw [List.length_map, hol]; unfold maxLen; simp; omega) (by rw [List.length_map, hol]; simp; omega) hsz6 ?_))
      intro v7 w7 hown7 hg7
      have hb7 := below_grown hb6 hown6 (Nat.le_refl _) hsz6 hg7
      have hlen : bs.length + 1 + on = bs.length + (uintN m).length := by rw [← HU.out, List.length_cons, offI_len]; omega
      have hlst : bs.map (Value.int .u8) ++ Value.int .u8 (on : Int) :: (offI m on).map (Value.int .u8) = (bs ++ uintN m).map (Value.int .u8) := by rw [← HU.out]; simp
      rw [hlen, hlst] at hown7
      have HF := Lib.hid (ownsRow_base hown7 hbr.size)
      have hbf := hbr.trans (hb7.mono hbr.size)
      clear hown7 hg7 hlen hlst hown6 hso6 hso
      go_wp2
      go_ret
      exact ⟨_, rfl, HF.out, hbf⟩

set_option maxRecDepth 100000 in
set_option maxHeartbeats 1000000 in
theorem rbytes_any (v : Value) (bs : List Int) (u : Value) (xs : List Int) (w : World) (hn : bs.length + xs.length ≤ 100000000000000) (hs : Sl w v (bs.map (Value.int .u8))) (hu : Sl w u (xs.map (Value.int .u8))) :
    Calls Tryd.prog 78 #[v, u] w fun e w' => ∃ v', e = .returned v' ∧ w'.ownsRow w.heap.size 5 1 v' (bs ++ bytesI xs).length ((bs ++ bytesI xs).map (Value.int .u8)) ∧ Below w.heap.size w w' := by
  obtain ⟨ua, uc, rfl, huc, hum⟩ := hu.shape
  simp only [List.length_map] at *
  have hwl : width xs.length ≤ 8 := by unfold width; have := Lib.bitLen_le xs.length 63 (by omega) (by omega); omega
  have HU := Lib.hid (ruint_any v bs xs.length w (by omega) hs (by omega) (by omega))
  rw [Int.toNat_natCast] at HU
  have hul : (uintN xs.length).length ≤ 9 := by unfold uintN; rw [List.length_cons, beI_len]; omega
  have HEQ := Lib.hid (show bs.map (Value.int .u8) ++ ((uintN xs.length).map (Value.int .u8) ++ xs.map (Value.int .u8)) = (bs ++ bytesI xs).map (Value.int .u8) by unfold bytesI; simp)
  have HEL := Lib.hid (show bs.length + (uintN xs.length).length + xs.length = (bs ++ bytesI xs).length by unfold bytesI; simp; omega)
  generalize uintN xs.length = U at *
  generalize bs ++ bytesI xs = R at *
  obtain ⟨i0, hi, hz0, hz1, hz2⟩ := info_parts info8c
  go_enter Tryd.func78, Tryd.ntmps78
  go_wp2_with fail
  refine HU.out.mono ?_
  rintro e w2 ⟨v2, rfl, hown, hb2⟩
  have hu2 := hu.below hb2 (Nat.le_refl _)
  have hsz2 := hb2.size
  go_wp2_with (at_builtin; refine wpList_append_sl rfl _ _ 22 rfl w.heap.size 5 i0 (.int .u8 0) 1 Tryd.underlying22 hi hz0 hz1 hz2 rfl _ _ _ rfl hown (.slice ua xs.length uc) (xs.map (Value.int .u8)) rfl hu2 (one8 _) (by simp; unfold maxLen; omega) (by simp; omega) hsz2 ?_)
  intro v3 w3 hown3 hg3
  have hb3 := below_grown hb2 hown (Nat.le_refl _) hsz2 hg3
  rw [HEQ.out, HEL.out] at hown3
  clear hg3 hown
  go_wp2
  go_ret
  exact ⟨_, rfl, hown3, hb3⟩

end Go.Proofs.YtililoojjfcfgaaDoor

namespace Go.Proofs.YtililoojjfcfgaaDoor
open Go.RowKit
set_option linter.unusedVariables false

/-- The hash of two of a level. -/
def pairT (size l p : Int) (x y : List Int) : List Int := hashT size 9 [numI l, numI p, x, y]
theorem pairT_isB (size l p : Int) (x y : List Int) : IsB (pairT size l p x y) := hashT_isB' _ _ _
theorem pairT_len (size l p : Int) (x y : List Int) : (pairT size l p x y).length ≤ 32 := hashT_len _ _ _
theorem keyL_len (size : Int) (seed : List Int) (idx : Int) : (keyL size seed idx).length ≤ 32 := by
  unfold keyL; split
  · exact hashT_len _ _ _
  · simp
/-- The p-th of the level above. -/
def upA (size l : Int) (L : List (List Int)) (p : Nat) : List Int := pairT size l p (L.getD (2 * p) []) (L.getD (2 * p + 1) [])
def upI (size l : Int) (L : List (List Int)) (n : Nat) : List (List Int) := (List.range n).map (upA size l L)
def botI (size : Int) (seed : List Int) (n : Nat) : List (List Int) := (List.range n).map fun i : Nat => keyL size seed i
def lvI (size : Int) (seed : List Int) (h : Nat) : Nat → List (List Int)
  | 0 => botI size seed (2 ^ h)
  | l + 1 => upI size (l + 1 : Nat) (lvI size seed h l) (2 ^ (h - (l + 1)))
def lvsI (size : Int) (seed : List Int) (h n : Nat) : List (List (List Int)) := (List.range n).map (lvI size seed h)

theorem botI_succ (size : Int) (seed : List Int) (n : Nat) : botI size seed (n + 1) = botI size seed n ++ [keyL size seed n] := by
  simp [botI, List.range_succ]
theorem upI_succ (size l : Int) (L : List (List Int)) (n : Nat) : upI size l L (n + 1) = upI size l L n ++ [upA size l L n] := by
  simp [upI, List.range_succ]
theorem lvsI_succ (size : Int) (seed : List Int) (h n : Nat) : lvsI size seed h (n + 1) = lvsI size seed h n ++ [lvI size seed h n] := by
  simp [lvsI, List.range_succ]
theorem botI_len (size : Int) (seed : List Int) (n : Nat) : (botI size seed n).length = n := by simp [botI]
theorem upI_len (size l : Int) (L : List (List Int)) (n : Nat) : (upI size l L n).length = n := by simp [upI]
theorem lvsI_len (size : Int) (seed : List Int) (h n : Nat) : (lvsI size seed h n).length = n := by simp [lvsI]
theorem lvI_len (size : Int) (seed : List Int) (h : Nat) : ∀ l, (lvI size seed h l).length = 2 ^ (h - l)
  | 0 => by rw [lvI, botI_len]; rfl
  | l + 1 => by rw [lvI, upI_len]
theorem lvsI_get (size : Int) (seed : List Int) (h n l : Nat) (hl : l < n) : (lvsI size seed h n)[l]? = some (lvI size seed h l) := by
  simp [lvsI, hl]
theorem two_half (h l : Nat) (hl : l < h) : 2 ^ (h - l) = 2 * 2 ^ (h - (l + 1)) := by
  rw [show h - l = (h - (l + 1)) + 1 by omega, Nat.pow_succ]; omega
theorem lvI_isB (size : Int) (seed : List Int) (h : Nat) : ∀ l, ∀ p ∈ lvI size seed h l, IsB p
  | 0 => by
    intro p hp
    simp only [lvI, botI, List.mem_map] at hp
    obtain ⟨i, _, rfl⟩ := hp
    exact keyL_isB _ _ _
  | l + 1 => by
    intro p hp
    simp only [lvI, upI, List.mem_map] at hp
    obtain ⟨i, _, rfl⟩ := hp
    exact pairT_isB _ _ _ _ _
theorem lvI_short (size : Int) (seed : List Int) (h : Nat) : ∀ l, ∀ p ∈ lvI size seed h l, p.length ≤ 32
  | 0 => by
    intro p hp
    simp only [lvI, botI, List.mem_map] at hp
    obtain ⟨i, _, rfl⟩ := hp
    exact keyL_len _ _ _
  | l + 1 => by
    intro p hp
    simp only [lvI, upI, List.mem_map] at hp
    obtain ⟨i, _, rfl⟩ := hp
    exact pairT_len _ _ _ _ _
theorem getD_mem {l : List (List Int)} {k : Nat} (hk : k < l.length) : l.getD k [] ∈ l := by
  rw [List.getD_eq_getElem?_getD, List.getElem?_eq_getElem hk]; exact List.getElem_mem _

theorem OSls.base {w : World} {b0 b1 : Nat} {v : Value} {pss : List (List Int)} (h : OSls w b1 v pss) (hb : b0 ≤ b1) : OSls w b0 v pss := by
  obtain ⟨vs, ⟨h1, h2⟩, h3⟩ := h
  exact ⟨vs, ⟨ownsRow_base h1 hb, h2⟩, h3⟩
/-- A list of texts stays where a row of another type grows. -/
theorem OSls.keepR {w w' : World} {base : Nat} {v : Value} {pss : List (List Int)} (h : OSls w base v pss) {b : Nat} {e : TypeId} {size : Nat} {r : Value} {n : Nat} {xs : List Value} (hown : OwnK w b e size r n xs) (hne : e ≠ 22) (hg : w.grownBy w' r.ownBlock) : OSls w' base v pss := by
  obtain ⟨vs, h1, h2⟩ := h
  have hn : ∀ g', v.ownBlock = some g' → some g' ≠ r.ownBlock := by
    intro g' hg' he
    obtain ⟨c1, k1, _⟩ := h1.2 g' hg'
    obtain ⟨c2, k2, _⟩ := hown.2 g' he.symm
    rw [k1] at k2
    injection k2 with k2
    injection k2 with _ k2
    exact hne k2.symm
  have hb : ∀ g', v.ownBlock = some g' → w'.heap[g']? = w.heap[g']? := fun g' hg' => hg.block g' (h1.1.lt g' hg').2 (hn g' hg')
  refine ⟨vs, ⟨⟨h1.1.1, ?_⟩, fun g' hg' => ?_⟩, h2.keepK hown hg⟩
  · rcases h1.1.2 with hx | ⟨g', cap, cur, rfl, hbg, hh, hr⟩
    · exact Or.inl hx
    · exact Or.inr ⟨g', cap, cur, rfl, hbg, (hb g' rfl).trans hh, hr⟩
  · obtain ⟨cur, hc1, hc2⟩ := h1.2 g' hg'
    exact ⟨cur, (hb g' hg').trans hc1, hc2⟩

def LvAll (w : World) : List Value → List (List (List Int)) → Prop
  | [], [] => True
  | u :: us, l :: ls => OSls w 0 u l ∧ LvAll w us ls
  | _, _ => False
theorem LvAll.len {w : World} : ∀ {us : List Value} {ls : List (List (List Int))}, LvAll w us ls → us.length = ls.length
  | [], [], _ => rfl
  | [], _ :: _, h => h.elim
  | _ :: _, [], h => h.elim
  | _ :: _, _ :: _, h => by simp [LvAll.len h.2]
theorem LvAll.at {w : World} : ∀ {us : List Value} {ls : List (List (List Int))}, LvAll w us ls → ∀ (i : Nat) (u : Value) (l : List (List Int)), us[i]? = some u → ls[i]? = some l → OSls w 0 u l
  | [], [], _, i, u, l, hu, _ => by simp at hu
  | [], _ :: _, h, _, _, _, _, _ => h.elim
  | _ :: _, [], h, _, _, _, _, _ => h.elim
  | u0 :: us, l0 :: ls, h, 0, u, l, hu, hl => by
    simp at hu hl; subst hu hl; exact h.1
  | u0 :: us, l0 :: ls, h, i + 1, u, l, hu, hl => LvAll.at h.2 i u l (by simpa using hu) (by simpa using hl)
theorem LvAll.mono {w w' : World} (f : ∀ u l, OSls w 0 u l → OSls w' 0 u l) : ∀ {us : List Value} {ls : List (List (List Int))}, LvAll w us ls → LvAll w' us ls
  | [], [], _ => trivial
  | [], _ :: _, h => h.elim
  | _ :: _, [], h => h.elim
  | _ :: _, _ :: _, h => ⟨f _ _ h.1, LvAll.mono f h.2⟩
theorem LvAll.snoc {w : World} {u : Value} {l : List (List Int)} (hu : OSls w 0 u l) : ∀ {us : List Value} {ls : List (List (List Int))}, LvAll w us ls → LvAll w (us ++ [u]) (ls ++ [l])
  | [], [], _ => ⟨hu, trivial⟩
  | [], _ :: _, h => h.elim
  | _ :: _, [], h => h.elim
  | _ :: _, _ :: _, h => ⟨h.1, LvAll.snoc hu h.2⟩

/-- A list of lists of texts that the call makes. -/
def OLv (w : World) (base : Nat) (v : Value) (ll : List (List (List Int))) : Prop := ∃ vs, OwnK w base 23 1 v ll.length vs ∧ LvAll w vs ll
theorem OLv.nil (w : World) (base : Nat) : OLv w base (.slice none 0 0) [] := ⟨[], OwnK.nil _ _ _ _, trivial⟩
theorem OLv.below {w w' : World} {base : Nat} {v : Value} {ll : List (List (List Int))} (h : OLv w base v ll) (hb : Below w.heap.size w w') : OLv w' base v ll := by
  obtain ⟨vs, h1, h2⟩ := h
  exact ⟨vs, h1.below hb (Nat.le_refl _), h2.mono fun u l hu => hu.below hb⟩
theorem OLv.base {w : World} {b0 b1 : Nat} {v : Value} {ll : List (List (List Int))} (h : OLv w b1 v ll) (hb : b0 ≤ b1) : OLv w b0 v ll := by
  obtain ⟨vs, ⟨h1, h2⟩, h3⟩ := h
  exact ⟨vs, ⟨ownsRow_base h1 hb, h2⟩, h3⟩
theorem OLv.val {w : World} {base : Nat} {v : Value} {ll : List (List (List Int))} (h : OLv w base v ll) : ∃ a c, v = .slice a ll.length c := by
  obtain ⟨vs, h1, h2⟩ := h
  obtain ⟨a, c, h3, _⟩ := (Sl.of_owns h1.1).shape
  rw [h2.len] at h3
  exact ⟨a, c, h3⟩
/-- A level of it. -/
theorem OLv.at {w : World} {base : Nat} {a : Option Addr} {n cap : Nat} {ll : List (List (List Int))} (h : OLv w base (.slice a n cap) ll) {k : Nat} {l : List (List Int)} (hk : ll[k]? = some l) :
    ∃ b off u, a = some ⟨b, off, none⟩ ∧ b < w.heap.size ∧ w.cell? ⟨b, off + k, none⟩ = some u ∧ OSls w 0 u l := by
  obtain ⟨vs, h1, h2⟩ := h
  have hkl : k < vs.length := by
    rw [h2.len]
    rcases Nat.lt_or_ge k ll.length with hlt | hge
    · exact hlt
    · rw [List.getElem?_eq_none hge] at hk; cases hk
  obtain ⟨b, off, rfl, hb, hc⟩ := (Sl.of_owns h1.1).addr (by omega)
  have hu : vs[k]? = some vs[k] := List.getElem?_eq_getElem hkl
  exact ⟨b, off, vs[k], rfl, hb, hc k _ hu, h2.at k _ _ hu hk⟩
theorem OSls.keepM {w w' : World} {base : Nat} {v : Value} {pss : List (List Int)} (h : OSls w base v pss) {g : Nat} {t : TypeId} {cs : Array Value} (k : Blk w g t cs) (hne1 : 22 ≠ t) (hcs : ∀ (j : Nat) (n : Int), cs[j]? ≠ some (.int .u8 n)) (hg : w.grownBy w' (some g)) : OSls w' base v pss := by
  obtain ⟨us, k1, k2⟩ := h
  have hn : v.ownBlock ≠ some g := own_blk_ne k1.1 k hne1
  refine ⟨us, ⟨k1.1.kept hg (.inr hn), fun g' hg' => ?_⟩, ?_⟩
  · obtain ⟨cur, hc1, hc2⟩ := k1.2 g' hg'
    exact ⟨cur, (hg.block g' (k1.1.lt g' hg').2 (fun e => hn (by rw [hg', e]))).trans hc1, hc2⟩
  · have key : ∀ {us : List Value} {ps : List (List Int)}, SlAll w us ps → SlAll w' us ps := by
      intro us
      induction us with
      | nil => intro ps h; cases ps with
        | nil => trivial
        | cons _ _ => exact h.elim
      | cons u us ih => intro ps h; cases ps with
        | nil => exact h.elim
        | cons p ps => exact ⟨h.1.keepG k hcs hg, ih h.2⟩
    exact key k2
theorem OLv.keepGk {w w' : World} {base : Nat} {v : Value} {ll : List (List (List Int))} (h : OLv w base v ll) {g : Nat} {t : TypeId} {cs : Array Value} (k : Blk w g t cs) (hne : 23 ≠ t) (hne1 : 22 ≠ t) (hcs : ∀ (j : Nat) (n : Int), cs[j]? ≠ some (.int .u8 n)) (hg : w.grownBy w' (some g)) : OLv w' base v ll := by
  obtain ⟨vs, h1, h2⟩ := h
  have hn : v.ownBlock ≠ some g := own_blk_ne h1.1 k hne
  refine ⟨vs, ⟨h1.1.kept hg (.inr hn), fun g' hg' => ?_⟩, h2.mono fun u l hu => hu.keepM k hne1 hcs hg⟩
  obtain ⟨cur, hc1, hc2⟩ := h1.2 g' hg'
  exact ⟨cur, (hg.block g' (h1.1.lt g' hg').2 (fun e => hn (by rw [hg', e]))).trans hc1, hc2⟩

/-- A literal of one level. -/
theorem OLv.lit {w : World} {base : Nat} {u : Value} {l : List (List Int)} (hu : OSls w 0 u l) (hbase : base ≤ w.heap.size) : OLv (w.alloc (.cells #[u] 23)) base (.slice (some ⟨w.heap.size, 0, none⟩) 1 1) [l] := by
  have h := World.ownsRow_lit (base := base) (e := 23) (size := 1) w #[u] 1 hbase (by simp [maxLen]) (by simp)
  have hb : Below w.heap.size w (w.alloc (.cells #[u] 23)) := (Below.refl _ _).alloc (Nat.le_refl _) _
  refine ⟨[u], ⟨h, fun g hg => ?_⟩, ⟨hu.below hb, trivial⟩⟩
  have : w.heap.size = g := by simpa [Value.ownBlock] using hg
  subst this
  obtain ⟨a, c, rfl⟩ := hu.val
  exact ⟨_, heap_alloc_new w _, fun c hc => by simp at hc; subst hc; exact notB_slice _ _ _⟩

theorem only_below0 {a w w1 : World} {row : Option Nat} (h : a.grownBy w row) (hb : Below a.heap.size w w1) : a.grownBy w1 row :=
  ⟨hb.os.trans h.os, hb.tape.trans h.tape, hb.output.trans h.output, Nat.le_trans h.size hb.size, fun i hi hne => (hb.block i hi).trans (h.block i hi hne)⟩

theorem infoL : (Tryd.prog.info? 23).map (fun i => (i.zero, i.size, i.bytes)) = some (some (.slice none 0 0), 1, 24) := by kernel_rfl

theorem wpList_append_level {w : World} {ops : Array Oper} {rest : List Oper} {o : Oper} {a : Act} {Q : Exit → Act → World → Prop} (hgd : o.guard = none) (s x : Operand)
    (ho : o.op = .call { callee := .builtin .append, args := #[s, x], argTypes := #[38, 38] })
    (base : Nat) (v : Value) (ll : List (List (List Int))) (hs : a.eval s = v) (hown : OLv w base v ll)
    (b cap : Nat) (hx : a.eval x = .slice (some ⟨b, 0, none⟩) 1 cap) (u : Value) (hc : w.cell? ⟨b, 0, none⟩ = some u) (l : List (List Int)) (hu : OSls w 0 u l)
    (h63 : ll.length + 1 ≤ 5000000000000) (hbase : base ≤ w.heap.size)
    (h : ∀ v' w', OLv w' base v' (ll ++ [l]) → Below base w w' → w.grownBy w' v.ownBlock → wpList Tryd.prog ops Q rest (a.put o.dst v') w') : wpList Tryd.prog ops Q (o :: rest) a w := by
  obtain ⟨vs, h1, h2⟩ := hown
  obtain ⟨i0, hi, hz0, hz1, hz2⟩ := info_parts infoL
  obtain ⟨ua, uc, rfl⟩ := hu.val
  obtain ⟨v', w', hrun, hown', hg⟩ := run_append_ownK (P := Tryd.prog) w base 38 o.type 23 i0 (.slice none 0 0) 1 24 Tryd.underlying38 hi hz0 hz1 hz2 rfl (by decide) (by intro c hc; simp [Value.cells] at hc; subst hc; exact notB_slice _ _ _) v ll.length vs h1 ⟨b, 0, none⟩ 1 cap [.slice ua l.length uc] rfl
    (fun j y hj => by
      match j, hj with
      | 0, hj => simp at hj; subst hj; exact hc
      | j + 1, hj => simp at hj) (by simp [Value.oneCell']) (by simp [notB_slice]) (by unfold maxLen; omega) (by omega) hbase
  refine wpList_plain hgd fun K hK => ?_
  unfold Oper.wp
  simp [execOp, ho, resolve, invoke, builtin, hs, hx, hrun, Result.andThen]
  refine hK _ _ (h v' w' ⟨_, by simpa using hown', (h2.mono fun u l hu => hu.keepR h1 (by decide) hg).snoc (hu.keepR h1 (by decide) hg)⟩ ?_ hg)
  exact (Below.refl _ _).grown hg hbase (fun k hk => (h1.1.lt k hk).1)

theorem step_append_textM {w : World} {ops : Array Oper} {o : Oper} {a : Act} {K : Act → World → Prop} {Q : Exit → Act → World → Prop} {E : Prop} (hgd : o.guard = none) (s x : Operand)
    (ho : o.op = .call { callee := .builtin .append, args := #[s, x], argTypes := #[23, 23] })
    (base : Nat) (v : Value) (pss : List (List Int)) (hs : a.eval s = v) (hown : OSls w base v pss)
    (b cap : Nat) (hx : a.eval x = .slice (some ⟨b, 0, none⟩) 1 cap) (u : Value) (hc : w.cell? ⟨b, 0, none⟩ = some u) (p : List Int) (hu : Sl w u (p.map (Value.int .u8)))
    (h63 : pss.length + 1 ≤ 5000000000000) (hbase : base ≤ w.heap.size)
    (h : ∀ v' w', OSls w' base v' (pss ++ [p]) → Below base w w' → w.grownBy w' v.ownBlock → K (a.put o.dst v') w') : if Region.wanted o (yielded ops a.tmps) = true then Oper.wp Tryd.prog o a w K Q else E := by
  have hw : Region.wanted o (yielded ops a.tmps) = true := by simp [Region.wanted, hgd]
  rw [if_pos hw]
  obtain ⟨vs, h1, h2⟩ := hown
  obtain ⟨i0, hi, hz0, hz1, hz2⟩ := info_parts infoT
  obtain ⟨ua, un, uc, rfl⟩ := hu.val
  obtain ⟨v', w', hrun, hown', hg⟩ := run_append_ownK (P := Tryd.prog) w base 23 o.type 22 i0 (.slice none 0 0) 1 24 Tryd.underlying23 hi hz0 hz1 hz2 rfl (by decide) (by intro c hc; simp [Value.cells] at hc; subst hc; exact notB_slice _ _ _) v pss.length vs h1 ⟨b, 0, none⟩ 1 cap [.slice ua un uc] rfl
    (fun j y hj => by
      match j, hj with
      | 0, hj => simp at hj; subst hj; exact hc
      | j + 1, hj => simp at hj) (by simp [Value.oneCell']) (by simp [notB_slice]) (by unfold maxLen; omega) (by omega) hbase
  unfold Oper.wp execOp
  simp only [ho, resolve, invoke, builtin, Sem.run_bind, Sem.run_pure, Result.andThen_ok, List.map_toArray, List.map_cons, List.map_nil, hs, hx, hrun]
  exact h v' w' ⟨_, by simpa using hown', (h2.keepK h1 hg).snoc (hu.keepK h1 hg)⟩ ((Below.refl _ _).grown hg hbase (fun k hk => (h1.1.lt k hk).1)) hg

end Go.Proofs.YtililoojjfcfgaaDoor
